/- Lemmas and contracts for the claim: part 4, brought together by program. -/
import Derived.Test.YtgmglpnoppcnkaaZR3
import Derived.Test.YtgmglpnoppcnkaaRows
import Derived.WalkKit
import Derived.ProofKit
import Derived.OpenShut
import Derived.ShutString
import Derived.ChangeOld
import Derived.Below
import Derived.SizedLaws
import Derived.Deep.Slices
import Derived.Deep.Fields
import Derived.Test.YtgmglpnoppcnkaaProg
import Derived.Deep.Draws
import Derived.Deep.AppendLies
import Derived.Maps.AppendAt
import Derived.OwnWalk
import Derived.Laws.BytesArg
import Derived.Laws.MakeOwn
import Derived.Laws.OwnMore
import Derived.Deep.OwnRows
import Derived.Tactics
import Derived.Lib.ConvBytes
import Derived.Laws.Slices
import Derived.KernelRfl
import Derived.RowKit3
import Derived.Deep.LoopGhost
import Derived.Deep.QuietTactic
import Derived.BigQuiet
import Derived.WideLaws
import Derived.Deep.DeepCutAuto
import Derived.Deep.CutBlock
import Derived.Deep.RegionHeld3
import Derived.Laws.Rows
import Derived.Lib.AppendStr
import Derived.ArgAppend
import Derived.Laws.IdiomCopy
import Derived.OrdersHeld
import Derived.Laws.BitsLemmas
import Derived.RowKit
section
namespace Go.Proofs.Ytgmglpnoppcnkaa
open Go.RowKit Go.Proofs.YtgmglpnoppcnkaaW.PrintWords Go.Proofs.YtgmglpnoppcnkaaW.PrintLast Go.Proofs.YtgmglpnoppcnkaaW.PrintMore
set_option linter.unusedVariables false
set_option linter.unusedSimpArgs false
set_option maxRecDepth 100000
set_option maxHeartbeats 4000000 in
theorem Diag_early (nn uu : Int) (A : Option Addr) (c : Nat) (ls : List Lk) (sn lo hi : Int) (A3 : Option Addr) (c3 : Nat) (l : List Du) (u : Int) (w : World)
    (hr : Kd.C PB.k88 w A ls.length ls) (hc : ls.length ≤ c) (h : startE nn uu ls sn lo hi ≠ 0) :
    Calls Try.prog 24 #[.agg #[.int .i64 nn, .int .i64 uu, .slice A ls.length c], .agg #[.int .i64 sn, .int .i64 lo, .int .i64 hi], .slice A3 l.length c3, .int .i64 u] w fun e w' => e = .returned (.tuple #[.slice none 0 0, .slice none 0 0, .int .i64 (startE nn uu ls sn lo hi)]) ∧ Below w.heap.size w w' := by
  have HR := Aside0.mk (And.intro hr hc)
  obtain ⟨E, hE⟩ : ∃ E, E = startE nn uu ls sn lo hi := ⟨_, rfl⟩
  have HE := Aside0.mk (And.intro h hE)
  have HCW : Aside0 (∀ W, Below w.heap.size w W → Calls Try.prog 68 #[.agg #[.int .i64 nn, .int .i64 uu, .slice A ls.length c], .agg #[.int .i64 sn, .int .i64 lo, .int .i64 hi]] W fun e w' => e = .returned (.tuple #[.pointer none, .int .i64 E]) ∧ Below W.heap.size W w') := ⟨fun W hW => by rw [hE]; exact weave_err nn uu A c ls sn lo hi W (Kd.C_below hr hW) hc h⟩
  rw [← hE] at h ⊢
  have hEb : (E == 0) = false := by simpa using h
  have hEn : (E != 0) = true := by simpa using h
  clear hr hc hE h
  go_enter Try.func24, Try.ntmps24
  go_wp2_with ((with_reducible refine gate_dst (N := 4) rfl ?_); refine hold ?_)
  refine box_event rfl (N := 4) rfl (cs := #[.int .i64 nn, .int .i64 uu, .slice A ls.length c]) (t := 32) (by go_simp) ?_
  intro bn hbn w1 hb1 hB1
  have HB1 := Aside0.mk hB1
  have Hb1 := Aside0.mk hb1
  clear hbn hB1 hb1
  go_wp2_with ((with_reducible refine gate_dst (N := 5) rfl ?_); refine hold ?_)
  refine box_event rfl (N := 5) rfl (cs := #[.int .i64 sn, .int .i64 lo, .int .i64 hi]) (t := 43) (by go_simp) ?_
  intro bs hbs w2 hb2 hB2
  have HB2 := Aside0.mk (below_step HB1.out hB2)
  have hb1' := blk_below Hb1.out hB2
  have C0 : w2.cell? ⟨bn, 0, none⟩ = some (.int .i64 nn) := blk_cell hb1' 0
  have C1 : w2.cell? ⟨bn, 1, none⟩ = some (.int .i64 uu) := blk_cell hb1' 1
  have C2 : w2.cell? ⟨bn, 2, none⟩ = some (.slice A ls.length c) := blk_cell hb1' 2
  have C3 : w2.cell? ⟨bs, 0, none⟩ = some (.int .i64 sn) := blk_cell hb2 0
  have C4 : w2.cell? ⟨bs, 1, none⟩ = some (.int .i64 lo) := blk_cell hb2 1
  have C5 : w2.cell? ⟨bs, 2, none⟩ = some (.int .i64 hi) := blk_cell hb2 2
  clear hb1' hb2 hB2 Hb1 HB1 hbs
  go_wp2_with (go_at_call 68; refine (HCW.out _ HB2.out).mono ?_; rintro e w3 ⟨rfl, hb3⟩; have B3 := Aside0.mk (below_step HB2.out hb3); clear hb3 C0 C1 C2 C3 C4 C5)
  go_ret3
  exact ⟨rfl, B3.out⟩
set_option maxHeartbeats 4000000 in
theorem Diag_until (nn uu : Int) (A : Option Addr) (c : Nat) (ls : List Lk) (sn lo hi : Int) (A3 : Option Addr) (c3 : Nat) (l : List Du) (u : Int) (w : World)
    (hr : Kd.C PB.k88 w A ls.length ls) (hc : ls.length ≤ c) (h : startE nn uu ls sn lo hi = 0) (hu : ¬ (0 ≤ u ∧ u ≤ 1000000000)) :
    Calls Try.prog 24 #[.agg #[.int .i64 nn, .int .i64 uu, .slice A ls.length c], .agg #[.int .i64 sn, .int .i64 lo, .int .i64 hi], .slice A3 l.length c3, .int .i64 u] w fun e w' => e = .returned (.tuple #[.slice none 0 0, .slice none 0 0, .int .i64 3]) ∧ Below w.heap.size w w' := by
  have HR := Aside0.mk (And.intro hr hc)
  have HE := Aside0.mk h
  have HU := Aside0.mk (decide_eq_false hu)
  clear hr hc h hu
  go_enter Try.func24, Try.ntmps24
  go_wp2_with ((with_reducible refine gate_dst (N := 4) rfl ?_); refine hold ?_)
  refine box_event rfl (N := 4) rfl (cs := #[.int .i64 nn, .int .i64 uu, .slice A ls.length c]) (t := 32) (by go_simp) ?_
  intro bn hbn w1 hb1 hB1
  have HB1 := Aside0.mk hB1
  have Hb1 := Aside0.mk hb1
  clear hbn hB1 hb1
  go_wp2_with ((with_reducible refine gate_dst (N := 5) rfl ?_); refine hold ?_)
  refine box_event rfl (N := 5) rfl (cs := #[.int .i64 sn, .int .i64 lo, .int .i64 hi]) (t := 43) (by go_simp) ?_
  intro bs hbs w2 hb2 hB2
  have HB2 := Aside0.mk (below_step HB1.out hB2)
  have hb1' := blk_below Hb1.out hB2
  have C0 : w2.cell? ⟨bn, 0, none⟩ = some (.int .i64 nn) := blk_cell hb1' 0
  have C1 : w2.cell? ⟨bn, 1, none⟩ = some (.int .i64 uu) := blk_cell hb1' 1
  have C2 : w2.cell? ⟨bn, 2, none⟩ = some (.slice A ls.length c) := blk_cell hb1' 2
  have C3 : w2.cell? ⟨bs, 0, none⟩ = some (.int .i64 sn) := blk_cell hb2 0
  have C4 : w2.cell? ⟨bs, 1, none⟩ = some (.int .i64 lo) := blk_cell hb2 1
  have C5 : w2.cell? ⟨bs, 2, none⟩ = some (.int .i64 hi) := blk_cell hb2 2
  clear hb1' hb2 hB2 Hb1 HB1 hbs
  go_wp2_with (first | (go_at_call 68; refine (weave_ok nn uu A c ls sn lo hi _ (Kd.C_below HR.out.1 HB2.out) HR.out.2 HE.out).mono ?_; rintro e w3 ⟨wp, rfl, hb3, hw3⟩; have B3 := Aside0.mk (below_step HB2.out hb3); clear hb3 hw3 C0 C1 C2 C3 C4 C5) | (go_at_call 72; refine (within_same u 0 1000000000 _).mono ?_; rw [HU.out]; rintro e w4 ⟨rfl, rfl⟩))
  go_ret3
  exact ⟨rfl, B3.out⟩
theorem map_run165 (W : World) (o : Oper) (ev : Operand → Value) (ho : o.op = .makeMap 165 none) : (execOp ev o).run Try.prog W = .ok (.value (.map (some W.heap.size))) (W.alloc (.map #[] 0)) := by
  unfold execOp
  rw [ho]
  rfl
/-- The state of Diagnose, from the loop over the receipts on. -/
structure DgAt (w : World) (bn bs rb wp m : Nat) (nn uu : Int) (sv : Value) (sn lo hi : Int) (tm : Int → Option Int) (failed : List Bool) (wr : World) : Prop where
  kp : Below w.heap.size w wr
  net : wr.heap[bn]? = some (.cells #[.int .i64 nn, .int .i64 uu, sv] 32 (0, 0))
  st : wr.heap[bs]? = some (.cells #[.int .i64 sn, .int .i64 lo, .int .i64 hi] 43 (0, 0))
  blk : wr.heap[rb]? = some (.cells (runCs wp m failed).toArray 167 (0, 0))
  map : ∃ L c, MapAt wr m L c ∧ BornOk L c ∧ ∀ k, lookL L k = (tm k).map (Value.int .i64)
  len : failed.length = 20
  rge : w.heap.size ≤ rb
  mge : w.heap.size ≤ m
theorem DgAt.keep {w wr W : World} {bn bs rb wp m : Nat} {nn uu : Int} {sv : Value} {sn lo hi : Int} {tm : Int → Option Int} {failed : List Bool} (h : DgAt w bn bs rb wp m nn uu sv sn lo hi tm failed wr) (hb : Below wr.heap.size wr W) : DgAt w bn bs rb wp m nn uu sv sn lo hi tm failed W := by
  obtain ⟨h1, h2, h3, h4, ⟨L, c, h5, h6⟩, h7, h8, h9⟩ := h
  exact ⟨below_step h1 hb, blk_below h2 hb, blk_below h3 hb, blk_below h4 hb, ⟨L, c, (hb.block m (blk_lt h5)).trans h5, h6⟩, h7, h8, h9⟩
theorem DgAt.run {w wr : World} {bn bs rb wp m : Nat} {nn uu : Int} {sv : Value} {sn lo hi : Int} {tm : Int → Option Int} {failed : List Bool} (h : DgAt w bn bs rb wp m nn uu sv sn lo hi tm failed wr) : RunAt wr rb wp m tm failed := by
  obtain ⟨L, c, h5, h6, h7⟩ := h.map
  exact ⟨h.blk, ⟨L, c, h5, h7⟩, h.len⟩
theorem DgAt.store {w wr : World} {bn bs rb wp m : Nat} {nn uu : Int} {sv : Value} {sn lo hi : Int} {tm : Int → Option Int} {failed : List Bool} (h : DgAt w bn bs rb wp m nn uu sv sn lo hi tm failed wr) (k v : Int) (tm' : Int → Option Int) (ht : ∀ j, tm' j = if j = k then some v else tm j) :
    ∃ w3, (Instr.mapUpdate 165 (.map (some m)) (.int .i64 k) (.int .i64 v)).run Try.prog wr.drew = .ok () w3 ∧ Kp wr w3 (fun i => i = m) ∧ DgAt w bn bs rb wp m nn uu sv sn lo hi tm' failed w3 := by
  obtain ⟨h1, h2, h3, h4, ⟨L, c, h5, h6, h6'⟩, h7, h8, h9⟩ := h
  obtain ⟨c', hrun, hborn⟩ := run_store2 wr.drew 165 3 hu165 m L c h5 h6 k (.int .i64 v)
  refine ⟨_, hrun, ?_⟩
  have hm : wr.heap[m]? = some (.map (L.map mkE).toArray c) := h5
  have hml : m < wr.heap.size := blk_lt hm
  have hk : Kp wr ({ wr.drew with heap := wr.drew.heap.setIfInBounds m (.map ((putL L c k (.int .i64 v)).map mkE).toArray c') } : World) (fun i => i = m) := by
    refine ⟨rfl, rfl, rfl, ?_, fun i hi hn => ?_⟩
    · show wr.heap.size ≤ (wr.heap.setIfInBounds m _).size
      simp
    · show (wr.heap.setIfInBounds m _)[i]? = _
      rw [Array.getElem?_setIfInBounds, if_neg (fun e => hn e.symm)]
  have hne : ∀ {b : Nat} {cs : Array Value} {t : TypeId} {fr : Nat × Nat}, wr.heap[b]? = some (.cells cs t fr) → ¬ b = m := fun hb e => by
    rw [e, hm] at hb; cases hb
  refine ⟨hk, h1.trans (hk.below h1.size (fun i e => by rw [e]; exact h9)), hk.blk h2 (hne h2), hk.blk h3 (hne h3), hk.blk h4 (hne h4), ⟨putL L c k (.int .i64 v), c', ?_, hborn, fun j => ?_⟩, h7, h8, h9⟩
  · show (wr.heap.setIfInBounds m _)[m]? = _
    rw [Array.getElem?_setIfInBounds, if_pos rfl, if_pos hml]
  · rw [lookL_put, ht, h6']
    split <;> rfl
def DiagPost (w : World) (nn uu : Int) (ls : List Lk) (sn lo hi : Int) (l : List Du) (u : Int) (e : Ending) (w' : World) : Prop :=
  Below w.heap.size w w' ∧ ((diagE nn uu ls sn lo hi l u ≠ 0 ∧ e = .returned (.tuple #[.slice none 0 0, .slice none 0 0, .int .i64 (diagE nn uu ls sn lo hi l u)])) ∨
    (diagE nn uu ls sn lo hi l u = 0 ∧ ∃ v1 v2, e = .returned (.tuple #[v1, v2, .int .i64 0]) ∧ w'.ownsRow w.heap.size 3 1 v1 (listB (dWork ls sn l u)).length (ints (listB (dWork ls sn l u))) ∧ w'.ownsRow w.heap.size 3 1 v2 (listB (dFail ls sn l u)).length (ints (listB (dFail ls sn l u)))))
theorem DiagPost.fail {w : World} {nn uu : Int} {ls : List Lk} {sn lo hi : Int} {l : List Du} {u : Int} {w' : World} {E : Int} (hb : Below w.heap.size w w') (hE : diagE nn uu ls sn lo hi l u = E) (h0 : E ≠ 0) : DiagPost w nn uu ls sn lo hi l u (.returned (.tuple #[.slice none 0 0, .slice none 0 0, .int .i64 E])) w' :=
  ⟨hb, .inl ⟨by rw [hE]; exact h0, by rw [hE]⟩⟩
end Go.Proofs.Ytgmglpnoppcnkaa
end
section
namespace Go.Proofs.Ytgmglpnoppcnkaa
open Go.RowKit Go.Proofs.YtgmglpnoppcnkaaW.PrintWords Go.Proofs.YtgmglpnoppcnkaaW.PrintLast Go.Proofs.YtgmglpnoppcnkaaW.PrintMore
set_option linter.unusedVariables false
set_option linter.unusedSimpArgs false
set_option maxRecDepth 100000
theorem alloc_run144 (W : World) (o : Oper) (ev : Operand → Value) (ho : o.op = .alloc 144) : (execOp ev o).run Try.prog W = .ok (.value (.pointer (some ⟨W.heap.size, 0, none⟩))) (W.alloc (.cells (setCs noB).toArray 144 (0, 0))) := by
  unfold execOp
  rw [ho]
  rfl
theorem range_run165 (W : World) (o : Oper) (ev : Operand → Value) (x : Operand) (m : Nat) (L : List Ent) (c : Nat) (ho : o.op = .range 165 x) (hx : ev x = .map (some m)) (h : MapAt W m L c) : (execOp ev o).run Try.prog W = .ok (.value (.pointer (some ⟨W.heap.size, 0, none⟩))) (W.alloc (.mapIter (some m) c #[] c)) := by
  unfold execOp
  rw [ho]
  simp only [hx]
  rw [Sem.run_bind, run_range_at W 165 3 hu165 m L c h]
  rfl
/-- At the head of the loop over the receipts' nodes: V has been, S tells the iterator. -/
structure GInv (w : World) (bn bs rb wp m gb r c : Nat) (nn uu : Int) (sv : Value) (sn lo hi : Int) (tm : Int → Option Int) (failed : List Bool) (ls : List Lk) (L V : List Ent) (S : List Nat) (wr : World) : Prop where
  dg : DgAt w bn bs rb wp m nn uu sv sn lo hi tm failed wr
  mp : MapAt wr m L c
  born : BornOk L c
  look : ∀ k, lookL L k = (tm k).map (Value.int .i64)
  good : wr.heap[gb]? = some (.cells (setCs (setUs noB (V.filterMap (fun e => goodU tm failed sn ls e.1)))).toArray 144 (0, 0))
  it : IterAt wr r m c S
  vis : ∀ e ∈ V, e ∈ L
  ok : ∀ e ∈ V, e.1 ≠ sn → brU tm failed e.1 ls ≠ []
  gge : w.heap.size ≤ gb
  rge : w.heap.size ≤ r
section
variable {w wr W : World} {bn bs rb wp m gb r c : Nat} {nn uu : Int} {sv : Value} {sn lo hi : Int} {tm : Int → Option Int} {failed : List Bool} {ls : List Lk} {L V : List Ent} {S : List Nat}
theorem GInv.keep (h : GInv w bn bs rb wp m gb r c nn uu sv sn lo hi tm failed ls L V S wr) (hb : Below wr.heap.size wr W) : GInv w bn bs rb wp m gb r c nn uu sv sn lo hi tm failed ls L V S W := by
  obtain ⟨h1, h2, h3, h4, h5, ⟨c0, h6, h6'⟩, h7, h8, h9, h10⟩ := h
  exact ⟨h1.keep hb, (hb.block m (blk_lt h2)).trans h2, h3, h4, blk_below h5 hb, ⟨c0, h6, (hb.block r (blk_lt h6')).trans h6'⟩, h7, h8, h9, h10⟩
/-- Which blocks are not the iterator's. -/
theorem GInv.next (h : GInv w bn bs rb wp m gb r c nn uu sv sn lo hi tm failed ls L V S wr) (S' : List Nat) (w1 : World) (hw1 : w1 = wr ∨ w1 = wr.drew) (hk : Kp w1 W (fun i => i = r)) (hit : IterAt W r m c S') : GInv w bn bs rb wp m gb r c nn uu sv sn lo hi tm failed ls L V S' W := by
  have h' : GInv w bn bs rb wp m gb r c nn uu sv sn lo hi tm failed ls L V S w1 := by
    rcases hw1 with rfl | rfl
    · exact h
    · exact h.keep (below_drew1 (Below.refl _ _))
  clear h hw1
  obtain ⟨⟨g1, g2, g3, g4, ⟨L', c', g5, g6⟩, g7, g8, g9⟩, h2, h3, h4, h5, ⟨c0, h6, h6'⟩, h7, h8, h9, h10⟩ := h'
  have hne : ∀ {b : Nat} {cs : Array Value} {t : TypeId} {fr : Nat × Nat}, w1.heap[b]? = some (.cells cs t fr) → ¬ b = r := fun hb e => by
    rw [e, h6'] at hb; cases hb
  have hmr : ¬ m = r := fun e => by
    rw [e] at h2
    rw [show w1.heap[r]? = _ from h2] at h6'
    cases h6'
  exact ⟨⟨g1.trans (hk.below g1.size (fun i e => by rw [e]; exact h10)), hk.blk g2 (hne g2), hk.blk g3 (hne g3), hk.blk g4 (hne g4), ⟨L', c', hk.blk g5 hmr, g6⟩, g7, g8, g9⟩, hk.blk h2 hmr, h3, h4, hk.blk h5 (hne h5), hit, h7, h8, h9, h10⟩
/-- A node without news. -/
theorem GInv.pass (h : GInv w bn bs rb wp m gb r c nn uu sv sn lo hi tm failed ls L V S wr) (x : Ent) (hx : x ∈ L) (hn : goodU tm failed sn ls x.1 = none) (hok : x.1 ≠ sn → brU tm failed x.1 ls ≠ []) : GInv w bn bs rb wp m gb r c nn uu sv sn lo hi tm failed ls L (V ++ [x]) S wr := by
  obtain ⟨h1, h2, h3, h4, h5, h6, h7, h8, h9, h10⟩ := h
  refine ⟨h1, h2, h3, h4, ?_, h6, ?_, ?_, h9, h10⟩
  · rw [List.filterMap_append]
    simp only [List.filterMap_cons, hn, List.filterMap_nil, List.append_nil]
    exact h5
  · intro e he
    rcases List.mem_append.1 he with h | h
    · exact h7 e h
    · rw [List.mem_singleton.1 h]; exact hx
  · intro e he
    rcases List.mem_append.1 he with h | h
    · exact h8 e h
    · rw [List.mem_singleton.1 h]; exact hok
theorem setCs_set (s : List Bool) (j : Nat) (b : Bool) : (setCs s).set j (.bool b) = setCs (s.set j b) := by simp [setCs, List.map_set]
/-- A node that tells of a unit. -/
theorem GInv.mark (h : GInv w bn bs rb wp m gb r c nn uu sv sn lo hi tm failed ls L V S wr) (x : Ent) (hx : x ∈ L) (j : Nat) (hn : goodU tm failed sn ls x.1 = some (j : Int)) (hok : x.1 ≠ sn → brU tm failed x.1 ls ≠ []) (hne : gb ≠ bn ∧ gb ≠ bs ∧ gb ≠ rb) : GInv w bn bs rb wp m gb r c nn uu sv sn lo hi tm failed ls L (V ++ [x]) S (wr.setCell ⟨gb, j, none⟩ (.bool true)) := by
  obtain ⟨⟨g1, g2, g3, g4, ⟨L', c', g5, g6⟩, g7, g8, g9⟩, h2, h3, h4, h5, ⟨c0, h6, h6'⟩, h7, h8, h9, h10⟩ := h
  have hk := Kp.setCell wr gb j (.bool true)
  have hmg : ¬ m = gb := fun e => by
    rw [e] at h2
    rw [show wr.heap[gb]? = _ from h2] at h5
    cases h5
  have hrg : ¬ r = gb := fun e => by
    rw [e, h5] at h6'
    cases h6'
  refine ⟨⟨g1.trans (hk.below g1.size (fun i e => by rw [e]; exact h9)), hk.blk g2 (fun e => hne.1 e.symm), hk.blk g3 (fun e => hne.2.1 e.symm), hk.blk g4 (fun e => hne.2.2 e.symm), ⟨L', c', hk.blk g5 hmg, g6⟩, g7, g8, g9⟩, hk.blk h2 hmg, h3, h4, ?_, ⟨c0, h6, hk.blk h6' hrg⟩, ?_, ?_, h9, h10⟩
  · rw [blk_set h5 j (.bool true), List.filterMap_append]
    simp only [List.filterMap_cons, hn, List.filterMap_nil]
    rw [setUs_snoc]
    simp [setCs_set]
  · intro e he
    rcases List.mem_append.1 he with h | h
    · exact h7 e h
    · rw [List.mem_singleton.1 h]; exact hx
  · intro e he
    rcases List.mem_append.1 he with h | h
    · exact h8 e h
    · rw [List.mem_singleton.1 h]; exact hok
end
/-- What the iterator has handed out. -/
def seenOf (w : World) (r : Nat) : List Nat := match w.heap[r]? with | some (.mapIter _ _ seen _) => seen.toList | _ => []
theorem IterAt.seen {w : World} {r m c : Nat} {S : List Nat} (h : IterAt w r m c S) : seenOf w r = S := by
  obtain ⟨c0, _, h⟩ := h
  unfold seenOf
  rw [h]
/-- All nodes have been. -/
theorem GInv.work {w wr : World} {bn bs rb wp m gb r c : Nat} {nn uu : Int} {sv : Value} {sn lo hi : Int} {l : List Du} {u : Int} {ls : List Lk} {L V : List Ent} (h : GInv w bn bs rb wp m gb r c nn uu sv sn lo hi (tmOf l) (dFail ls sn l u) ls L V (V.map (·.2.2)) wr) (hall : ∀ x ∈ L, x.2.2 ∈ V.map (·.2.2)) :
    setUs noB (V.filterMap (fun e => goodU (tmOf l) (dFail ls sn l u) sn ls e.1)) = dWork ls sn l u ∧ ∀ x ∈ l, x.f0 ≠ sn → brU (tmOf l) (dFail ls sn l u) x.f0 ls ≠ [] := by
  have hVL : ∀ x ∈ L, x ∈ V := fun x hx => by
    obtain ⟨y, hy, e⟩ := List.mem_map.1 (hall x hx)
    rw [ent_inj h.born.1 hx (h.vis y hy) e.symm]
    exact hy
  have hkeys : ∀ k, (∃ e ∈ V, e.1 = k) ↔ ∃ x ∈ l, x.f0 = k := fun k => by
    constructor
    · rintro ⟨e, he, rfl⟩
      have h1 := mem_lookL (h.vis e he)
      rw [h.look, Option.isSome_map] at h1
      obtain ⟨t, ht⟩ := Option.isSome_iff_exists.1 h1
      obtain ⟨x, hx, e1, _⟩ := tmOf_mem ht
      exact ⟨x, hx, e1⟩
    · rintro ⟨x, hx, rfl⟩
      have h1 := mem_tmOf hx
      obtain ⟨t, ht⟩ := Option.isSome_iff_exists.1 h1
      have h2 := h.look x.f0
      rw [ht] at h2
      obtain ⟨y, hy, e1, _⟩ := lookL_mem h2
      exact ⟨y, hVL y hy, e1⟩
  constructor
  · unfold dWork
    refine setUs_same (fun v hv => ?_) (fun v => ?_) _
    · obtain ⟨e, he, h1⟩ := List.mem_filterMap.1 hv
      unfold goodU at h1
      split at h1
      · cases h1
      · unfold onlyU at h1
        split at h1
        · cases h1
        · split at h1
          · rename_i h2
            cases h1
            exact h2.2
          · cases h1
    · simp only [List.mem_filterMap]
      constructor
      · rintro ⟨e, he, h1⟩
        obtain ⟨x, hx, e1⟩ := (hkeys e.1).1 ⟨e, he, rfl⟩
        exact ⟨x, hx, by rw [e1]; exact h1⟩
      · rintro ⟨x, hx, h1⟩
        obtain ⟨e, he, e1⟩ := (hkeys x.f0).2 ⟨x, hx, rfl⟩
        exact ⟨e, he, by rw [e1]; exact h1⟩
  · intro x hx hne
    obtain ⟨e, he, e1⟩ := (hkeys x.f0).2 ⟨x, hx, rfl⟩
    rw [← e1] at hne ⊢
    exact h.ok e he hne
/-- A node that nothing can have brought. -/
theorem GInv.bad {w wr : World} {bn bs rb wp m gb r c : Nat} {nn uu : Int} {sv : Value} {sn lo hi : Int} {l : List Du} {u : Int} {ls : List Lk} {L V : List Ent} {S : List Nat} (h : GInv w bn bs rb wp m gb r c nn uu sv sn lo hi (tmOf l) (dFail ls sn l u) ls L V S wr) (x : Ent) (hx : x ∈ L) (hne : x.1 ≠ sn) (hb : brU (tmOf l) (dFail ls sn l u) x.1 ls = []) :
    ¬ ∀ x ∈ l, x.f0 ≠ sn → brU (tmOf l) (dFail ls sn l u) x.f0 ls ≠ [] := fun hall => by
  have h1 := mem_lookL hx
  rw [h.look, Option.isSome_map] at h1
  obtain ⟨t, ht⟩ := Option.isSome_iff_exists.1 h1
  obtain ⟨y, hy, e1, _⟩ := tmOf_mem ht
  exact hall y hy (by rw [e1]; exact hne) (by rw [e1]; exact hb)
end Go.Proofs.Ytgmglpnoppcnkaa
end
section
namespace Go.Proofs.Ytgmglpnoppcnkaa
open Go.RowKit Go.Proofs.YtgmglpnoppcnkaaW.PrintWords Go.Proofs.YtgmglpnoppcnkaaW.PrintLast Go.Proofs.YtgmglpnoppcnkaaW.PrintMore
set_option linter.unusedVariables false
set_option linter.unusedSimpArgs false
set_option maxRecDepth 100000
theorem unhold {p : Prop} (h : p) : Hold p := h
theorem runCs_get (wp m : Nat) (failed : List Bool) (j : Nat) (hj : j < failed.length) : (runCs wp m failed)[2 + j]? = some (.bool failed[j]) := by
  rw [runCs, show 2 + j = j + 1 + 1 by omega, List.getElem?_cons_succ, List.getElem?_cons_succ]
  simp [setCs, hj]
theorem runCs_set (wp m : Nat) (failed : List Bool) (j : Nat) (b : Bool) : (runCs wp m failed).set (2 + j) (.bool b) = runCs wp m (failed.set j b) := by
  rw [runCs, show 2 + j = j + 1 + 1 by omega, List.set_cons_succ, List.set_cons_succ]
  simp [setCs, runCs, List.map_set]
theorem DgAt.mark {w wr : World} {bn bs rb wp m : Nat} {nn uu : Int} {sv : Value} {sn lo hi : Int} {tm : Int → Option Int} {failed : List Bool} (h : DgAt w bn bs rb wp m nn uu sv sn lo hi tm failed wr) (j : Nat) (hne : rb ≠ bn) (hne2 : rb ≠ bs) :
    DgAt w bn bs rb wp m nn uu sv sn lo hi tm (failed.set j true) (wr.setCell ⟨rb, 2 + j, none⟩ (.bool true)) := by
  obtain ⟨h1, h2, h3, h4, ⟨L, c, h5, h6⟩, h7, h8, h9⟩ := h
  have hk := Kp.setCell wr rb (2 + j) (.bool true)
  have hm : ¬ m = rb := fun e => by rw [e] at h5; rw [show wr.heap[rb]? = _ from h5] at h4; cases h4
  refine ⟨h1.trans (hk.below h1.size (fun i e => by rw [e]; exact h8)), hk.blk h2 (fun e => hne e.symm), hk.blk h3 (fun e => hne2 e.symm), ?_, ⟨L, c, hk.blk h5 hm, h6⟩, by rw [List.length_set]; exact h7, h8, h9⟩
  have := blk_set h4 (2 + j) (.bool true)
  rw [this]
  simp [runCs_set]
def RSees (rb m lb : Nat) (x y : Int) (W : World) : Prop := W.cell? ⟨rb, 1, none⟩ = some (.map (some m)) ∧ W.cell? ⟨lb, 0, none⟩ = some (.int .i64 x) ∧ W.cell? ⟨lb, 1, none⟩ = some (.int .i64 y)
set_option maxHeartbeats 8000000 in
theorem Diag_ok (nn : Nat) (uu : Int) (A : Option Addr) (c : Nat) (ls : List Lk) (sn lo hi : Int) (A3 : Option Addr) (c3 : Nat) (l : List Du) (u : Int) (w : World)
    (hr : Kd.C PB.k88 w A ls.length ls) (hc : ls.length ≤ c) (h : startE nn uu ls sn lo hi = 0) (hu : 0 ≤ u ∧ u ≤ 1000000000) (hr3 : Kd.C PB.k41 w A3 l.length l) (hc3 : l.length ≤ c3) (hl : l.length ≤ 100000) :
    Calls Try.prog 24 #[.agg #[.int .i64 nn, .int .i64 uu, .slice A ls.length c], .agg #[.int .i64 sn, .int .i64 lo, .int .i64 hi], .slice A3 l.length c3, .int .i64 u] w (DiagPost w nn uu ls sn lo hi l u) := by
  have HR := Aside0.mk (And.intro hr (And.intro hc (And.intro hr3 hc3)))
  have HE := Aside0.mk h
  obtain ⟨n', e', hO⟩ := startE_ok h
  obtain rfl : nn = n' := by omega
  have HO := Aside0.mk hO
  have hn64 : nn ≤ 64 := by have := hO.net.n2; omega
  have hn1 : 1 ≤ nn := by have := hO.net.n1; omega
  have HU := Aside0.mk (decide_eq_true hu)
  have HU0 := Aside0.mk hu
  have HRC : Aside0 (∀ E, rcErr nn u [] l = E → E ≠ 0 → diagE nn uu ls sn lo hi l u = E) := ⟨fun E e h0 => by unfold diagE; rw [if_pos h, if_pos hu, if_neg (by rw [e]; exact h0), e]⟩
  have HRO : Aside0 (rcErr nn u [] l = 0 → diagE nn uu ls sn lo hi l u = runErr ls sn lo hi l u) := ⟨fun e => by unfold diagE; rw [if_pos h, if_pos hu, if_pos e]⟩
  clear hr hc h hu hr3 hc3 hO e'
  go_enter Try.func24, Try.ntmps24
  go_wp2_with ((with_reducible refine gate_dst (N := 4) rfl ?_); refine hold ?_)
  refine box_event rfl (N := 4) rfl (cs := #[.int .i64 nn, .int .i64 uu, .slice A ls.length c]) (t := 32) (by go_simp) ?_
  intro bn hbn w1 hb1 hB1
  have HB1 := Aside0.mk hB1
  have Hb1 := Aside0.mk hb1
  clear hbn hB1 hb1
  go_wp2_with ((with_reducible refine gate_dst (N := 5) rfl ?_); refine hold ?_)
  refine box_event rfl (N := 5) rfl (cs := #[.int .i64 sn, .int .i64 lo, .int .i64 hi]) (t := 43) (by go_simp) ?_
  intro bs hbs w2 hb2 hB2
  have HB2 := Aside0.mk (below_step HB1.out hB2)
  have hb1' := blk_below Hb1.out hB2
  have C0 : w2.cell? ⟨bn, 0, none⟩ = some (.int .i64 nn) := blk_cell hb1' 0
  have C1 : w2.cell? ⟨bn, 1, none⟩ = some (.int .i64 uu) := blk_cell hb1' 1
  have C2 : w2.cell? ⟨bn, 2, none⟩ = some (.slice A ls.length c) := blk_cell hb1' 2
  have C3 : w2.cell? ⟨bs, 0, none⟩ = some (.int .i64 sn) := blk_cell hb2 0
  have C4 : w2.cell? ⟨bs, 1, none⟩ = some (.int .i64 lo) := blk_cell hb2 1
  have C5 : w2.cell? ⟨bs, 2, none⟩ = some (.int .i64 hi) := blk_cell hb2 2
  have HNS := Aside0.mk (And.intro hb1' hb2)
  clear hb1' hb2 hB2 Hb1 HB1 hbs
  go_wp2_with (first | (go_at_call 68; refine (weave_ok nn uu A c ls sn lo hi _ (Kd.C_below HR.out.1 HB2.out) HR.out.2.1 HE.out).mono ?_; rintro e w3 ⟨wp, rfl, hb3, hw3⟩; have B3 := Aside0.mk (And.intro hb3 (below_step HB2.out hb3)); clear hb3 hw3 C0 C1 C2 C3 C4 C5) | (go_at_call 72; refine (within_same u 0 1000000000 _).mono ?_; rw [HU.out]; rintro e w4 ⟨rfl, rfl⟩) | ((with_reducible refine gate_dst (N := 43) rfl ?_); refine hold ?_))
  refine Kd.event_run (v := .map (some w4.heap.size)) (w1 := w4.alloc (.map #[] 0)) rfl (map_run165 _ _ _ rfl) ?_
  obtain ⟨w5, hw5⟩ : ∃ w5, w5 = w4.alloc (.map #[] 0) := ⟨_, rfl⟩
  obtain ⟨m, hm⟩ : ∃ m, m = w4.heap.size := ⟨_, rfl⟩
  rw [← hw5, ← hm]
  have hb5 : Below w4.heap.size w4 w5 := by rw [hw5]; exact below_alloc (Below.refl _ _) _
  have hmp : w5.heap[m]? = some (.map #[] 0) := by rw [hw5, hm]; exact blk_new w4 _
  have hmge : w.heap.size ≤ m := by rw [hm]; exact B3.out.2.size
  have HM := Aside0.mk (And.intro hmp (And.intro hmge (And.intro (below_step B3.out.1 hb5) (below_step B3.out.2 hb5))))
  clear hw5 hm hb5 hmp hmge
  go_wp2_with ((with_reducible refine gate_dst (N := 45) rfl ?_); refine hold ?_)
  refine box_event rfl (N := 45) rfl (cs := (runCs wp m noB).toArray) (t := 167) (by simp only [runCs, noB, setCs, List.replicate, List.map]; go_simp) ?_
  intro rb hrb w6 hb6 hB6
  have HI0 : Aside0 (DgAt w bn bs rb wp m nn uu (.slice A ls.length c) sn lo hi (tmOf (l.take 0)) noB w6) := by
    have h2 := below_step HM.out.2.2.1 hB6
    have h3 := below_step HM.out.2.2.2 hB6
    refine ⟨h3, blk_below HNS.out.1 h2, blk_below HNS.out.2 h2, hb6, ⟨[], 0, (hB6.block m (blk_lt HM.out.1)).trans HM.out.1, bornOk_nil 0, fun k => by simp [lookL, tmOf]⟩, rfl, by rw [hrb]; exact HM.out.2.2.2.size, HM.out.2.1⟩
  have HNE : Aside0 (rb ≠ bn ∧ rb ≠ bs) := ⟨by
    have h2 := HM.out.2.2.1
    have a := blk_lt (blk_below HNS.out.1 h2)
    have b := blk_lt (blk_below HNS.out.2 h2)
    omega⟩
  clear hrb hb6 hB6 HM HNS HB2 B3
  go_wp2
  go_loopw [48] (fun v wr => ∃ i : Nat, v = .int .i64 i ∧ i ≤ l.length ∧ Aside0 (DgAt w bn bs rb wp m nn uu (.slice A ls.length c) sn lo hi (tmOf (l.take i)) noB wr) ∧ Aside0 (rcErr nn u [] l = rcErr nn u (l.take i) (l.drop i)) ∧ Aside0 (∀ x ∈ l.take i, (0 ≤ x.f0 ∧ x.f0 ≤ (nn : Int) - 1) ∧ 0 ≤ x.f1 ∧ x.f1 ≤ u)) (fun v _ => l.length - (intOf v).toNat)
  case atStart => exact ⟨0, rfl, Nat.zero_le _, HI0, ⟨rfl⟩, ⟨fun x hx => by simp at hx⟩⟩
  case round =>
    obtain ⟨i, rfl, hile, HI, HD, HX⟩ := hrel
    obtain ⟨wo, rfl⟩ : ∃ wo, wo = wr := ⟨_, rfl⟩
    clear HI0
    by_cases hgo : i < l.length
    · have hwi : IntKind.i64.wrap ((i : Int) + 1) = (i : Int) + 1 := by rw [i64_w]; unfold wrap64; omega
      obtain ⟨d, hdd⟩ : ∃ d, d = l[i] := ⟨_, rfl⟩
      have hrd : PB.rd_T41 l (i : Int) = d := by rw [hdd]; simp [PB.rd_T41, List.getElem?_eq_getElem hgo]
      have ea := PB.at_T41 (Kd.C_below HR.out.2.2.1 HI.out.kp) (i : Int) (by omega) (by omega)
      rw [hrd, Int.toNat_natCast] at ea
      obtain ⟨ad, rfl, e0, e1⟩ := ea
      have HDD := Aside0.mk hdd
      obtain ⟨lb, hlb⟩ : ∃ lb, lb = wo.heap.size := ⟨_, rfl⟩
      have hbx : (wo.alloc (.cells #[.int .i64 d.f0, .int .i64 d.f1] 71)).heap[lb]? = some (.cells #[.int .i64 d.f0, .int .i64 d.f1] 71 (0, 0)) := by rw [hlb]; exact blk_new wo _
      have hBx : Below wo.heap.size wo (wo.alloc (.cells #[.int .i64 d.f0, .int .i64 d.f1] 71)) := below_alloc (Below.refl _ _) _
      clear hdd hrd
      go_wp2
      obtain ⟨W1, hW1⟩ : ∃ W1, W1 = wo.alloc (.cells #[.int .i64 d.f0, .int .i64 d.f1] 71) := ⟨_, rfl⟩
      rw [← hW1] at hbx hBx ⊢
      rw [← hlb]
      have HI1 := Aside0.mk (HI.out.keep hBx)
      have HBX := Aside0.mk hbx
      clear hBx hlb hW1 e0 e1 hbx
      obtain ⟨T0, hT0⟩ : ∃ T0, T0 = (tmOf (l.take i) d.f0).getD 0 := ⟨_, rfl⟩
      obtain ⟨B0, hB0⟩ : ∃ B0, B0 = (tmOf (l.take i) d.f0).isSome := ⟨_, rfl⟩
      have c0 : ∀ W, Below W1.heap.size W1 W → W.cell? ⟨lb, 0, none⟩ = some (.int .i64 d.f0) := fun W h => blk_cell (blk_below HBX.out h) 0
      have c1 : ∀ W, Below W1.heap.size W1 W → W.cell? ⟨rb, 1, none⟩ = some (.map (some m)) := fun W h => blk_cell (HI1.out.keep h).blk 1
      have L0 : (Instr.lookup 165 (.map (some m)) (.int .i64 d.f0) true).run Try.prog W1.drew = .ok (.tuple #[.int .i64 T0, .bool B0]) W1.drew := by rw [hT0, hB0]; exact (HI1.out.keep (below_drew1 (Below.refl _ _))).run.look d.f0
      have HTB := Aside0.mk (And.intro hT0 hB0)
      clear hT0 hB0
      go_region_held3 (fun W => Below W1.heap.size W1 W) (first | exact below_drew1 (Below.refl _ _) | exact below_step (by assumption) (by assumption)) (fail)
      rename_i hH
      have HI2 := Aside0.mk (HI1.out.keep hH)
      have HBX2 := Aside0.mk (blk_below HBX.out hH)
      clear c0 c1 L0 hH HI1 HBX
      generalize W1.drew = W2 at HI2 HBX2 ⊢
      have c0 : W2.cell? ⟨lb, 0, none⟩ = some (.int .i64 d.f0) := blk_cell HBX2.out 0
      have c1 : W2.cell? ⟨lb, 1, none⟩ = some (.int .i64 d.f1) := blk_cell HBX2.out 1
      have c2 : W2.cell? ⟨bn, 0, none⟩ = some (.int .i64 nn) := blk_cell HI2.out.net 0
      by_cases hnode : 0 ≤ d.f0 ∧ d.f0 ≤ (nn : Int) - 1
      · have HN := Aside0.mk hnode
        clear hnode
        cases B0
        · have HT : Aside0 (tmOf (l.take i) d.f0 = none) := ⟨by simpa using HTB.out.2.symm⟩
          clear HTB
          by_cases hby : 0 ≤ d.f1 ∧ d.f1 ≤ u
          · have HBY := Aside0.mk hby
            clear hby
            have HSTO := Aside0.mk (HI2.out.store d.f0 d.f1 (tmOf (l.take (i + 1))) (fun j => by rw [List.take_add_one, List.getElem?_eq_getElem hgo, ← HDD.out]; exact tmOf_snoc _ _ HT.out j))
            have HC1 : Aside0 (∀ W, Calls Try.prog 72 #[.int .i64 d.f0, .int .i64 0, .int .i64 ((nn : Int) - 1)] W fun e w' => e = .returned (.bool true) ∧ w' = W) := ⟨fun W => by have := within_same d.f0 0 ((nn : Int) - 1) W; rw [decide_eq_true HN.out] at this; exact this⟩
            have HC2 : Aside0 (∀ W, Calls Try.prog 72 #[.int .i64 d.f1, .int .i64 0, .int .i64 u] W fun e w' => e = .returned (.bool true) ∧ w' = W) := ⟨fun W => by have := within_same d.f1 0 u W; rw [decide_eq_true HBY.out] at this; exact this⟩
            go_wp2_with fail
            refine (HC1.out _).mono ?_
            rintro e w7 ⟨rfl, rfl⟩
            go_wp2_with fail
            refine (HC2.out _).mono ?_
            rintro e w8 ⟨rfl, rfl⟩
            go_wp2
            obtain ⟨w3, hst, hkp, hdg⟩ := HSTO.out
            have hS0 : RSees rb m lb d.f0 d.f1 w8.drew := ⟨blk_cell HI2.out.blk 1, c0, c1⟩
            have hlm : ¬ lb = m := fun e => by
              obtain ⟨L, cl, h5, -⟩ := HI2.out.map
              have := HBX2.out
              rw [e, show w8.heap[m]? = _ from h5] at this
              cases this
            have hbx3 := hkp.blk HBX2.out hlm
            have hS3 : RSees rb m lb d.f0 d.f1 w3 := ⟨blk_cell hdg.blk 1, blk_cell hbx3 0, blk_cell hbx3 1⟩
            have HDG := Aside0.mk hdg
            have HRC2 : Aside0 (rcErr nn u [] l = rcErr nn u (l.take (i + 1)) (l.drop (i + 1))) := ⟨by
              rw [HD.out]
              have hT := HT.out
              have hN := HN.out
              have hB := HBY.out
              rw [HDD.out] at hT hN hB
              exact rcErr_step hgo hN hT hB⟩
            have HX2 : Aside0 (∀ x ∈ l.take (i + 1), (0 ≤ x.f0 ∧ x.f0 ≤ (nn : Int) - 1) ∧ 0 ≤ x.f1 ∧ x.f1 ≤ u) := ⟨by
              intro x hx
              rw [List.take_add_one, List.getElem?_eq_getElem hgo] at hx
              rcases List.mem_append.1 hx with h | h
              · exact HX.out x h
              · rw [Option.toList_some, List.mem_singleton, ← HDD.out] at h
                rw [h]
                exact ⟨HN.out, HBY.out⟩⟩
            have K0 : ∀ W, RSees rb m lb d.f0 d.f1 W → W.cell? ⟨rb, 1, none⟩ = some (.map (some m)) := fun W h => h.1
            have K1 : ∀ W, RSees rb m lb d.f0 d.f1 W → W.cell? ⟨lb, 0, none⟩ = some (.int .i64 d.f0) := fun W h => h.2.1
            have K2 : ∀ W, RSees rb m lb d.f0 d.f1 W → W.cell? ⟨lb, 1, none⟩ = some (.int .i64 d.f1) := fun W h => h.2.2
            clear hkp hdg hbx3 hlm c0 c1 c2
            go_region_held3 (fun W => RSees rb m lb d.f0 d.f1 W) (first | assumption) (fail)
            go_wp2
            go_roundw
            case rel => exact ⟨i + 1, by go_num, by omega, HDG, HRC2, HX2⟩
            case measure => simp [intOf]; omega
          · have HBY := Aside0.mk hby
            clear hby
            have HC1 : Aside0 (∀ W, Calls Try.prog 72 #[.int .i64 d.f0, .int .i64 0, .int .i64 ((nn : Int) - 1)] W fun e w' => e = .returned (.bool true) ∧ w' = W) := ⟨fun W => by have := within_same d.f0 0 ((nn : Int) - 1) W; rw [decide_eq_true HN.out] at this; exact this⟩
            have HC2 : Aside0 (∀ W, Calls Try.prog 72 #[.int .i64 d.f1, .int .i64 0, .int .i64 u] W fun e w' => e = .returned (.bool false) ∧ w' = W) := ⟨fun W => by have := within_same d.f1 0 u W; rw [decide_eq_false HBY.out] at this; exact this⟩
            have HFIN : Aside0 (diagE nn uu ls sn lo hi l u = 3) := ⟨by
              have hT := HT.out
              have hN := HN.out
              have hB := HBY.out
              rw [HDD.out] at hT hN hB
              exact HRC.out 3 (by rw [HD.out]; exact rcErr_time hgo hN hT hB) (by decide)⟩
            go_wp2_with fail
            refine (HC1.out _).mono ?_
            rintro e w7 ⟨rfl, rfl⟩
            go_wp2_with fail
            refine (HC2.out _).mono ?_
            rintro e w8 ⟨rfl, rfl⟩
            go_wp2
            go_ret3
            exact DiagPost.fail HI2.out.kp HFIN.out (by decide)
        · have HT : Aside0 ((tmOf (l.take i) d.f0).isSome = true) := ⟨HTB.out.2.symm⟩
          clear HTB
          have HC1 : Aside0 (∀ W, Calls Try.prog 72 #[.int .i64 d.f0, .int .i64 0, .int .i64 ((nn : Int) - 1)] W fun e w' => e = .returned (.bool true) ∧ w' = W) := ⟨fun W => by have := within_same d.f0 0 ((nn : Int) - 1) W; rw [decide_eq_true HN.out] at this; exact this⟩
          have HFIN : Aside0 (diagE nn uu ls sn lo hi l u = 5) := ⟨by
            have hT := HT.out
            have hN := HN.out
            rw [HDD.out] at hT hN
            exact HRC.out 5 (by rw [HD.out]; exact rcErr_twice hgo hN hT) (by decide)⟩
          go_wp2_with fail
          refine (HC1.out _).mono ?_
          rintro e w7 ⟨rfl, rfl⟩
          go_wp2
          go_ret3
          exact DiagPost.fail HI2.out.kp HFIN.out (by decide)
      · have HN := Aside0.mk hnode
        clear hnode
        have HC1 : Aside0 (∀ W, Calls Try.prog 72 #[.int .i64 d.f0, .int .i64 0, .int .i64 ((nn : Int) - 1)] W fun e w' => e = .returned (.bool false) ∧ w' = W) := ⟨fun W => by have := within_same d.f0 0 ((nn : Int) - 1) W; rw [decide_eq_false HN.out] at this; exact this⟩
        have HFIN : Aside0 (diagE nn uu ls sn lo hi l u = 4) := ⟨by
          have hN := HN.out
          rw [HDD.out] at hN
          exact HRC.out 4 (by rw [HD.out]; exact rcErr_none hgo hN) (by decide)⟩
        go_wp2_with fail
        refine (HC1.out _).mono ?_
        rintro e w7 ⟨rfl, rfl⟩
        go_wp2
        go_ret3
        exact DiagPost.fail HI2.out.kp HFIN.out (by decide)
    · obtain rfl : i = l.length := by omega
      have hHI := HI.out
      have hD := HD.out
      have hX := HX.out
      rw [List.take_length] at hHI hX hD
      rw [List.drop_length] at hD
      have HG := Aside0.mk hHI
      have HRE : Aside0 (diagE nn uu ls sn lo hi l u = runErr ls sn lo hi l u) := ⟨HRO.out hD⟩
      have HTM : Aside0 (∀ k t, tmOf l k = some t → 0 ≤ t ∧ t ≤ 1000000000) := ⟨fun k t ht => by
        obtain ⟨x, hx, -, e⟩ := tmOf_mem ht
        have := (hX x hx).2
        have := HU0.out
        omega⟩
      have HND : Aside0 (∀ x ∈ l, 0 ≤ x.f0 ∧ x.f0 ≤ (nn : Int) - 1) := ⟨fun x hx => (hX x hx).1⟩
      clear hile hgo HI HD HX hHI hD hX HRC HRO
      obtain ⟨T0, hT0⟩ : ∃ T0, T0 = (tmOf l sn).getD 0 := ⟨_, rfl⟩
      obtain ⟨B0, hB0⟩ : ∃ B0, B0 = (tmOf l sn).isSome := ⟨_, rfl⟩
      have c0 : ∀ W, Below wo.heap.size wo W → W.cell? ⟨bs, 0, none⟩ = some (.int .i64 sn) := fun W h => blk_cell (HG.out.keep h).st 0
      have c1 : ∀ W, Below wo.heap.size wo W → W.cell? ⟨rb, 1, none⟩ = some (.map (some m)) := fun W h => blk_cell (HG.out.keep h).blk 1
      have L0 : (Instr.lookup 165 (.map (some m)) (.int .i64 sn) true).run Try.prog wo.drew = .ok (.tuple #[.int .i64 T0, .bool B0]) wo.drew := by rw [hT0, hB0]; exact (HG.out.keep (below_drew1 (Below.refl _ _))).run.look sn
      have HTB := Aside0.mk (And.intro hT0 hB0)
      clear hT0 hB0
      go_wp2
      go_region_held3 (fun W => Below wo.heap.size wo W) (first | exact below_drew1 (Below.refl _ _) | exact below_step (by assumption) (by assumption)) (fail)
      rename_i hH
      have HG2 := Aside0.mk (HG.out.keep hH)
      clear c0 c1 L0 hH
      generalize wo.drew = W2 at HG2 ⊢
      cases B0
      · have HFIN : Aside0 (diagE nn uu ls sn lo hi l u = 2) := ⟨by
          have : tmOf l sn = none := by simpa using HTB.out.2.symm
          rw [HRE.out]; unfold runErr; rw [this]⟩
        go_wp2
        go_ret3
        exact DiagPost.fail HG2.out.kp HFIN.out (by decide)
      · have hT : tmOf l sn = some T0 := by
          obtain ⟨t, ht⟩ := Option.isSome_iff_exists.1 HTB.out.2.symm
          have := HTB.out.1
          rw [ht] at this ⊢
          rw [this]; rfl
        have HT := Aside0.mk hT
        have c1 : W2.cell? ⟨bs, 1, none⟩ = some (.int .i64 lo) := blk_cell HG2.out.st 1
        have c2 : W2.cell? ⟨bs, 2, none⟩ = some (.int .i64 hi) := blk_cell HG2.out.st 2
        clear hT HTB
        by_cases hin : lo ≤ T0 ∧ T0 ≤ hi
        · have HIN := Aside0.mk hin
          have HC1 : Aside0 (∀ W, Calls Try.prog 72 #[.int .i64 T0, .int .i64 lo, .int .i64 hi] W fun e w' => e = .returned (.bool true) ∧ w' = W) := ⟨fun W => by have := within_same T0 lo hi W; rw [decide_eq_true hin] at this; exact this⟩
          clear hin
          go_wp2_with fail
          refine (HC1.out _).mono ?_
          rintro e w7 ⟨rfl, rfl⟩
          have c3 : w7.cell? ⟨bn, 2, none⟩ = some (.slice A ls.length c) := blk_cell HG2.out.net 2
          have HLEN := Aside0.mk HO.out.net.len
          clear c1 c2
          go_wp2
          clear c3
          have HI0 : Aside0 (DgAt w bn bs rb wp m nn uu (.slice A ls.length c) sn lo hi (tmOf l) (failB (silU (tmOf l) sn u (ls.take 0))) w7) := ⟨HG2.out⟩
          go_loopw [113] (fun v wr => ∃ i : Nat, v = .int .i64 i ∧ i ≤ ls.length ∧ Aside0 (DgAt w bn bs rb wp m nn uu (.slice A ls.length c) sn lo hi (tmOf l) (failB (silU (tmOf l) sn u (ls.take i))) wr) ∧ Aside0 (∀ v ∈ silU (tmOf l) sn u (ls.take i), 0 ≤ v)) (fun v _ => ls.length - (intOf v).toNat)
          case atStart => exact ⟨0, rfl, Nat.zero_le _, HI0, ⟨fun x hx => by simp [silU] at hx⟩⟩
          case round =>
            obtain ⟨i, rfl, hile, HI, HS⟩ := hrel
            clear HI0
            obtain ⟨wo, rfl⟩ : ∃ wo, wo = wr := ⟨_, rfl⟩
            by_cases hgo : i < ls.length
            · obtain ⟨x, hx⟩ : ∃ x, x = ls[i] := ⟨_, rfl⟩
              have HL := Aside0.mk hx
              clear hx
              have hrd : PB.rd_T88 ls (i : Int) = x := by rw [HL.out]; simp [PB.rd_T88, List.getElem?_eq_getElem hgo]
              have ea := PB.at_T88 (Kd.C_below HR.out.1 HI.out.kp) (i : Int) (by omega) (by omega)
              rw [hrd, Int.toNat_natCast] at ea
              obtain ⟨ad, rfl, e0, e1, e2, e3, e4, e5⟩ := ea
              clear hrd
              have hi256 : i < 256 := by have := HLEN.out; omega
              have hwi : IntKind.i64.wrap ((i : Int) + 1) = (i : Int) + 1 := by rw [i64_w]; unfold wrap64; omega
              obtain ⟨lb, hlb⟩ : ∃ lb, lb = wo.heap.size := ⟨_, rfl⟩
              have hbx : (wo.alloc (.cells #[.int .i64 x.f0, .int .i64 x.f1, .int .i64 x.f2.f0, .int .i64 x.f2.f1, .int .i64 x.f3, .bool x.f4] 88)).heap[lb]? = some (.cells #[.int .i64 x.f0, .int .i64 x.f1, .int .i64 x.f2.f0, .int .i64 x.f2.f1, .int .i64 x.f3, .bool x.f4] 88 (0, 0)) := by rw [hlb]; exact blk_new wo _
              have hBx : Below wo.heap.size wo (wo.alloc (.cells #[.int .i64 x.f0, .int .i64 x.f1, .int .i64 x.f2.f0, .int .i64 x.f2.f1, .int .i64 x.f3, .bool x.f4] 88)) := below_alloc (Below.refl _ _) _
              go_wp2_with ((with_reducible refine gate_dst (N := 117) rfl ?_); refine hold ?_)
              apply unhold
              obtain ⟨W1, hW1⟩ : ∃ W1, W1 = wo.alloc (.cells #[.int .i64 x.f0, .int .i64 x.f1, .int .i64 x.f2.f0, .int .i64 x.f2.f1, .int .i64 x.f3, .bool x.f4] 88) := ⟨_, rfl⟩
              rw [← hW1] at hbx hBx ⊢
              rw [← hlb]
              have HI1 := Aside0.mk (HI.out.keep hBx)
              have HBX := Aside0.mk hbx
              clear hBx hlb hW1 e0 e1 e2 e3 e4 e5
              have hbs1 := HI1.out.st
              have f0 : W1.cell? ⟨lb, 0, none⟩ = some (.int .i64 x.f0) := blk_cell hbx 0
              have f1 : W1.cell? ⟨lb, 1, none⟩ = some (.int .i64 x.f1) := blk_cell hbx 1
              have f2 : W1.cell? ⟨lb, 2, none⟩ = some (.int .i64 x.f2.f0) := blk_cell hbx 2
              have f3 : W1.cell? ⟨lb, 3, none⟩ = some (.int .i64 x.f2.f1) := blk_cell hbx 3
              have f4 : W1.cell? ⟨lb, 4, none⟩ = some (.int .i64 x.f3) := blk_cell hbx 4
              have f5 : W1.cell? ⟨lb, 5, none⟩ = some (.bool x.f4) := blk_cell hbx 5
              have f6 : W1.cell? ⟨bs, 0, none⟩ = some (.int .i64 sn) := blk_cell hbs1 0
              have hxm : x ∈ ls := by rw [HL.out]; exact List.getElem_mem hgo
              have hlk := HO.out.net.links x hxm
              have hu2 := HO.out.net.u2
              have HLK := Aside0.mk (And.intro hlk hu2)
              have hsnoc := silU_snoc (tmOf l) sn u (ls.take i) x
              rw [show ls.take i ++ [x] = ls.take (i + 1) by rw [HL.out]; exact (take_snoc ls i hgo).symm] at hsnoc
              have HSN := Aside0.mk hsnoc
              clear hbx hbs1 hxm hlk hu2 hsnoc
              by_cases hto : x.f1 = sn
              · have hq : (x.f1 == sn) = true := by simpa using hto
                have HE2 : Aside0 (silU (tmOf l) sn u (ls.take (i + 1)) = silU (tmOf l) sn u (ls.take i)) := ⟨by rw [HSN.out, if_neg (fun h => h.1 hto)]⟩
                clear hto
                have HI2 : Aside0 (DgAt w bn bs rb wp m nn uu (.slice (some ad) ls.length c) sn lo hi (tmOf l) (failB (silU (tmOf l) sn u (ls.take (i + 1)))) W1) := ⟨by rw [HE2.out]; exact HI1.out⟩
                have HS2 : Aside0 (∀ v ∈ silU (tmOf l) sn u (ls.take (i + 1)), 0 ≤ v) := ⟨by rw [HE2.out]; exact HS.out⟩
                go_wp2
                go_roundw
                case rel => exact ⟨i + 1, by go_num, by omega, HI2, HS2⟩
                case measure => simp [intOf]; omega
              · have hq : (x.f1 == sn) = false := by simpa using hto
                have HTO := Aside0.mk hto
                obtain ⟨b, hb⟩ : ∃ b, b = silentB (tmOf l) x u := ⟨_, rfl⟩
                have HC75 : Aside0 (∀ W, Below W1.heap.size W1 W → Calls Try.prog 75 #[.pointer (some ⟨rb, 0, none⟩), .agg #[.int .i64 x.f0, .int .i64 x.f1, .int .i64 x.f2.f0, .int .i64 x.f2.f1, .int .i64 x.f3, .bool x.f4], .int .i64 u] W fun e w' => e = .returned (.bool b) ∧ Below W.heap.size W w') := ⟨fun W h => by
                  rw [hb]
                  have ht := HLK.out.1.2.2.2.2
                  unfold timedP at ht
                  exact silent_calls rb wp m (tmOf l) _ x u W (HI1.out.keep h).run HTM.out (by omega)⟩
                have HB := Aside0.mk hb
                clear hto hb
                go_wp2_with fail
                refine (HC75.out _ (Below.refl _ _)).mono ?_
                rintro e w8 ⟨rfl, hb8⟩
                have HI2 := Aside0.mk (HI1.out.keep hb8)
                have HBX2 := Aside0.mk (blk_below HBX.out hb8)
                clear f0 f1 f2 f3 f4 f5 f6 hb8
                cases b
                · have HE2 : Aside0 (silU (tmOf l) sn u (ls.take (i + 1)) = silU (tmOf l) sn u (ls.take i)) := ⟨by rw [HSN.out, if_neg (fun h => by rw [← HB.out] at h; exact absurd h.2 (by decide))]⟩
                  have HI3 : Aside0 (DgAt w bn bs rb wp m nn uu (.slice (some ad) ls.length c) sn lo hi (tmOf l) (failB (silU (tmOf l) sn u (ls.take (i + 1)))) w8) := ⟨by rw [HE2.out]; exact HI2.out⟩
                  have HS2 : Aside0 (∀ v ∈ silU (tmOf l) sn u (ls.take (i + 1)), 0 ≤ v) := ⟨by rw [HE2.out]; exact HS.out⟩
                  go_wp2
                  go_roundw
                  case rel => exact ⟨i + 1, by go_num, by omega, HI3, HS2⟩
                  case measure => simp [intOf]; omega
                · have HE2 : Aside0 (silU (tmOf l) sn u (ls.take (i + 1)) = silU (tmOf l) sn u (ls.take i) ++ [x.f3]) := ⟨by rw [HSN.out, if_pos ⟨HTO.out, HB.out.symm⟩]⟩
                  have g4 : w8.cell? ⟨lb, 4, none⟩ = some (.int .i64 x.f3) := blk_cell HBX2.out 4
                  by_cases hneg : x.f3 < 0
                  · have HFIN : Aside0 (diagE nn uu ls sn lo hi l u = 14) := ⟨by
                      rw [HRE.out]; unfold runErr; rw [HT.out]
                      show (if lo ≤ T0 ∧ T0 ≤ hi then _ else _) = _
                      rw [if_pos HIN.out]
                      refine if_neg (fun hall => ?_)
                      have := hall x.f3 ?_
                      · omega
                      · have hmem : x.f3 ∈ silU (tmOf l) sn u (ls.take (i + 1)) := by rw [HE2.out]; simp
                        unfold silU at hmem ⊢
                        obtain ⟨y, hy, e⟩ := List.mem_map.1 hmem
                        obtain ⟨h1, h2⟩ := List.mem_filter.1 hy
                        exact List.mem_map.2 ⟨y, List.mem_filter.2 ⟨List.mem_of_mem_take h1, h2⟩, e⟩⟩
                    go_wp2
                    go_ret3
                    exact DiagPost.fail HI2.out.kp HFIN.out (by decide)
                  · obtain ⟨un, hun⟩ : ∃ un : Nat, (un : Int) = x.f3 := ⟨x.f3.toNat, by omega⟩
                    have hun20 : un < 20 := by have := HLK.out; omega
                    have HI3 : Aside0 (DgAt w bn bs rb wp m nn uu (.slice (some ad) ls.length c) sn lo hi (tmOf l) (failB (silU (tmOf l) sn u (ls.take (i + 1)))) (w8.setCell ⟨rb, 2 + un, none⟩ (.bool true))) := ⟨by
                      have := HI2.out.mark un HNE.out.1 HNE.out.2
                      rw [HE2.out]
                      unfold failB at this ⊢
                      rw [setUs_snoc, ← hun]
                      exact this⟩
                    have HS2 : Aside0 (∀ v ∈ silU (tmOf l) sn u (ls.take (i + 1)), 0 ≤ v) := ⟨by
                      rw [HE2.out]
                      intro v hv
                      rcases List.mem_append.1 hv with h | h
                      · exact HS.out v h
                      · rw [List.mem_singleton] at h
                        omega⟩
                    have g5 : ∃ bb, w8.cell? ⟨rb, 2 + un, none⟩ = some (.bool bb) := by
                      have hl := HI2.out.len
                      have := runCs_get wp m (failB (silU (tmOf l) sn u (ls.take i))) un (by rw [hl]; exact hun20)
                      exact ⟨_, by rw [blk_cell HI2.out.blk (2 + un)]; simpa using this⟩
                    obtain ⟨bb, g5⟩ := g5
                    have g6 : w8.frozen? ⟨rb, 2 + un, none⟩ = false := blk_frozen HI2.out.blk (2 + un)
                    rw [← hun] at g4
                    clear hun hneg
                    go_wp2
                    go_region
                    have HI4 := Aside0.mk (HI3.out.keep (below_drew1 (Below.refl _ _)))
                    clear HI3 g4 g5 g6
                    go_wp2
                    go_roundw
                    case rel => exact ⟨i + 1, by go_num, by omega, HI4, HS2⟩
                    case measure => simp [intOf]; omega
            · obtain rfl : i = ls.length := by omega
              have hHI := HI.out
              have hS := HS.out
              rw [List.take_length] at hHI hS
              have HG3 : Aside0 (DgAt w bn bs rb wp m nn uu (.slice A ls.length c) sn lo hi (tmOf l) (dFail ls sn l u) wo) := ⟨hHI⟩
              have HRE2 : Aside0 (diagE nn uu ls sn lo hi l u = if ∀ x ∈ l, x.f0 ≠ sn → brU (tmOf l) (dFail ls sn l u) x.f0 ls ≠ [] then 0 else 14) := ⟨by
                rw [HRE.out]; unfold runErr; rw [HT.out]
                show (if lo ≤ T0 ∧ T0 ≤ hi then _ else _) = _
                rw [if_pos HIN.out, if_pos hS]⟩
              clear hile hgo HI HS hHI hS HRE HG HG2 HC1
              go_wp2_with ((with_reducible refine gate_dst (N := 21) rfl ?_); refine hold ?_)
              refine Kd.event_run (v := .pointer (some ⟨wo.heap.size, 0, none⟩)) (w1 := wo.alloc (.cells (setCs noB).toArray 144 (0, 0))) rfl (alloc_run144 _ _ _ rfl) ?_
              obtain ⟨W1, hW1⟩ : ∃ W1, W1 = wo.alloc (.cells (setCs noB).toArray 144 (0, 0)) := ⟨_, rfl⟩
              obtain ⟨gb, hgb⟩ : ∃ gb, gb = wo.heap.size := ⟨_, rfl⟩
              rw [← hW1, ← hgb]
              have hb1 : Below wo.heap.size wo W1 := by rw [hW1]; exact below_alloc (Below.refl _ _) _
              have hgood : W1.heap[gb]? = some (.cells (setCs noB).toArray 144 (0, 0)) := by rw [hW1, hgb]; exact blk_new wo _
              have HG4 := Aside0.mk (And.intro (HG3.out.keep hb1) (And.intro hgood (And.intro (show w.heap.size ≤ gb by rw [hgb]; exact HG3.out.kp.size) (show gb ≠ bn ∧ gb ≠ bs ∧ gb ≠ rb by
                have a := blk_lt HG3.out.net
                have b := blk_lt HG3.out.st
                have d := blk_lt HG3.out.blk
                omega))))
              have c1 : W1.cell? ⟨rb, 1, none⟩ = some (.map (some m)) := blk_cell HG4.out.1.blk 1
              clear hW1 hgb hb1 hgood HG3
              go_wp2_with ((with_reducible refine gate_dst (N := 143) rfl ?_); refine hold ?_)
              obtain ⟨L, cl, hmp, hborn, hlook⟩ := HG4.out.1.map
              refine Kd.event_run (v := .pointer (some ⟨W1.heap.size, 0, none⟩)) (w1 := W1.alloc (.mapIter (some m) cl #[] cl)) rfl (range_run165 _ _ _ _ m L cl rfl (by go_simp) hmp) ?_
              obtain ⟨W2, hW2⟩ : ∃ W2, W2 = W1.alloc (.mapIter (some m) cl #[] cl) := ⟨_, rfl⟩
              obtain ⟨r, hr⟩ : ∃ r, r = W1.heap.size := ⟨_, rfl⟩
              rw [← hW2, ← hr]
              have HI0 : Aside0 (GInv w bn bs rb wp m gb r cl nn uu (.slice A ls.length c) sn lo hi (tmOf l) (dFail ls sn l u) ls L [] [] W2) := ⟨by
                have hb : Below W1.heap.size W1 W2 := by rw [hW2]; exact below_alloc (Below.refl _ _) _
                refine ⟨HG4.out.1.keep hb, (hb.block m (blk_lt hmp)).trans hmp, hborn, hlook, blk_below HG4.out.2.1 hb, ?_, fun _ h => by simp at h, fun _ h => by simp at h, HG4.out.2.2.1, by rw [hr]; exact HG4.out.1.kp.size⟩
                rw [hW2, hr]
                exact iterAt_new W1 m cl⟩
              have HNE2 := Aside0.mk HG4.out.2.2.2
              clear hW2 hr hmp hborn hlook HG4 c1
              go_wp2
              go_frame
              go_loopw [] (fun wr => ∃ V : List Ent, Aside0 (GInv w bn bs rb wp m gb r cl nn uu (.slice A ls.length c) sn lo hi (tmOf l) (dFail ls sn l u) ls L V (V.map (·.2.2)) wr)) (fun wr => leftN L (seenOf wr r))
              case atStart => exact ⟨[], HI0⟩
              case round =>
                obtain ⟨V, HI⟩ := hrel
                clear HI0
                obtain ⟨wo, rfl⟩ : ∃ wo, wo = wr := ⟨_, rfl⟩
                rcases run_next_ent wo 0 r m L cl (V.map (·.2.2)) HI.out.mp HI.out.born HI.out.it with ⟨hall, hnx⟩ | ⟨x, hxL, hxn, wa, wb, hwa, hnx, hkp, hsz, hit, hen⟩
                · obtain ⟨hwork, hok⟩ := HI.out.work hall
                  have HEZ : Aside0 (diagE nn uu ls sn lo hi l u = 0) := ⟨by rw [HRE2.out, if_pos hok]⟩
                  obtain ⟨GB, hGB⟩ : ∃ GB, GB = dWork ls sn l u := ⟨_, rfl⟩
                  obtain ⟨FB, hFB⟩ : ∃ FB, FB = dFail ls sn l u := ⟨_, rfl⟩
                  have hg := HI.out.good
                  have hf := HI.out.dg.blk
                  have hfl := HI.out.dg.len
                  have hgl : GB.length = 20 := by rw [hGB]; unfold dWork; rw [setUs_len]; rfl
                  rw [hwork, ← hGB] at hg
                  rw [← hFB] at hf hfl
                  have hr1 : wo.rangeAt gb 0 (setCs GB) := fun j v hj => by
                    rw [blk_cell hg (0 + j)]
                    simpa using hj
                  have hr2 : wo.rangeAt rb 2 (setCs FB) := fun j v hj => by
                    rw [blk_cell hf (2 + j)]
                    simp only [List.getElem?_toArray]
                    rw [runCs, show 2 + j = j + 1 + 1 by omega, List.getElem?_cons_succ, List.getElem?_cons_succ]
                    exact hj
                  have HRS := Aside0.mk (And.intro hr1 hr2)
                  have HGF := Aside0.mk (And.intro hGB hFB)
                  have HLG : Aside0 (∀ W, Calls Try.prog 79 #[.agg (setCs GB).toArray] W fun e w' => ∃ v, e = .returned v ∧ w'.ownsRow W.heap.size 3 1 v (listB GB).length (ints (listB GB)) ∧ Below W.heap.size W w') := ⟨fun W => list_calls GB W hgl⟩
                  have HLF : Aside0 (∀ W, Calls Try.prog 79 #[.agg (setCs FB).toArray] W fun e w' => ∃ v, e = .returned v ∧ w'.ownsRow W.heap.size 3 1 v (listB FB).length (ints (listB FB)) ∧ Below W.heap.size W w') := ⟨fun W => list_calls FB W hfl⟩
                  have hu144 := Try.underlying144
                  have hi144 : (Try.prog.info? 144).map (·.size) = some (setCs GB).length := by rw [setCs_length, hgl]; exact info144
                  have hj144 : (Try.prog.info? 144).map (·.size) = some (setCs FB).length := by rw [setCs_length, hfl]; exact info144
                  clear hwork hok hGB hFB hg hf hfl hgl hr1 hr2 hall
                  go_wp2
                  have HSX : Aside0 (∀ W, Below wo.heap.size wo W → Below wo.heap.size wo W ∧ (W.rangeAt gb 0 (setCs GB) ∧ W.rangeAt rb 2 (setCs FB))) := ⟨fun W h => ⟨h, range_below HRS.out.1 h, range_below HRS.out.2 h⟩⟩
                  refine wp_region_held_drew (S := (fun W => Below wo.heap.size wo W ∧ (W.rangeAt gb 0 (setCs GB) ∧ W.rangeAt rb 2 (setCs FB)))) (by kernel_rfl) (HSX.out _ (below_drew1 (Below.refl _ _))) (fun hS => ?_)
                  refine wpAnyH_take (i := 0) (v := .agg (setCs GB).toArray) rfl (by kernel_rfl) (by kernel_rfl) (by kernel_rfl) (fun _ _ _ h => h) (yieldsIf_load_mid (by rfl) _ _ rfl gb 0 rfl (setCs GB) _ (fun w h => h.2.1) Try.underlying144 rfl hi144) hS ?_
                  try simp only [Act.put, List.setIfInBounds_toArray, List.set_cons_zero, List.set_cons_succ]
                  refine wpAnyH_take (i := 2) (v := .pointer (some ⟨rb, 0, none⟩)) rfl (by kernel_rfl) (by kernel_rfl) (by kernel_rfl) (fun _ _ _ h => h) (Or.inl ⟨by rfl, fun Wx hSx => by go_simp⟩) hS ?_
                  try simp only [Act.put, List.setIfInBounds_toArray, List.set_cons_zero, List.set_cons_succ]
                  refine wpAnyH_take (i := 3) (v := .pointer (some ⟨rb, 0, none⟩)) rfl (by kernel_rfl) (by kernel_rfl) (by kernel_rfl) (fun _ _ _ h => h) (Or.inl ⟨by rfl, fun Wx hSx => by go_simp⟩) hS ?_
                  try simp only [Act.put, List.setIfInBounds_toArray, List.set_cons_zero, List.set_cons_succ]
                  refine wpAnyH_take (i := 4) (v := .pointer (some ⟨rb, 2, none⟩)) rfl (by kernel_rfl) (by kernel_rfl) (by kernel_rfl) (fun _ _ _ h => h) (Or.inl ⟨by rfl, fun Wx hSx => by go_simp⟩) hS ?_
                  try simp only [Act.put, List.setIfInBounds_toArray, List.set_cons_zero, List.set_cons_succ]
                  refine wpAnyH_take (i := 5) (v := .agg (setCs FB).toArray) rfl (by kernel_rfl) (by kernel_rfl) (by kernel_rfl) (fun _ _ _ h => h) (yieldsIf_load_mid (by rfl) _ _ rfl rb 2 rfl (setCs FB) _ (fun w h => h.2.2) Try.underlying144 rfl hj144) hS ?_
                  try simp only [Act.put, List.setIfInBounds_toArray, List.set_cons_zero, List.set_cons_succ]
                  refine wpAnyH_ready (rs := [1]) (by kernel_rfl) (by simp) ?_
                  refine AllReadyH.cons rfl (fun K hK => ?_) AllReadyH.nil
                  go_simp
                  refine (HLG.out _).mono ?_
                  rintro e wg ⟨vg, rfl, hvg, hbg⟩
                  have HVG := Aside0.mk (And.intro hvg hbg)
                  refine hK.out _ _ (HSX.out _ (below_step hS.1 hbg)) (fun hS2 => ?_)
                  clear hK K hvg hbg
                  have HB1 := Aside0.mk hS
                  clear hS
                  have hS := hS2
                  clear hS2
                  try simp only [Act.put, List.setIfInBounds_toArray, List.set_cons_zero, List.set_cons_succ]
                  refine wpAnyH_ready (rs := [6]) (by kernel_rfl) (by simp) ?_
                  refine AllReadyH.cons rfl (fun K hK => ?_) AllReadyH.nil
                  go_simp
                  refine (HLF.out _).mono ?_
                  rintro e wf ⟨vf, rfl, hvf, hbf⟩
                  have HVF := Aside0.mk (And.intro hvf hbf)
                  refine hK.out _ _ (HSX.out _ (below_step hS.1 hbf)) (fun hS2 => ?_)
                  clear hK K hvf hbf
                  have HB2 := Aside0.mk hS
                  clear hS
                  have hS := hS2
                  clear hS2
                  try simp only [Act.put, List.setIfInBounds_toArray, List.set_cons_zero, List.set_cons_succ]
                  refine wpAnyH_take (i := 7) (oi := ⟨some 8, _, _, _, _, _⟩) (v := vg) rfl (by kernel_rfl) (by kernel_rfl) (by kernel_rfl) (fun _ _ _ h => h) (Or.inl ⟨by rfl, fun Wx hSx => by go_simp⟩) hS ?_
                  try simp only [Act.put, List.setIfInBounds_toArray, List.set_cons_zero, List.set_cons_succ]
                  refine wpAnyH_take (i := 8) (oi := ⟨some 9, _, _, _, _, _⟩) (v := vf) rfl (by kernel_rfl) (by kernel_rfl) (by kernel_rfl) (fun _ _ _ h => h) (Or.inl ⟨by rfl, fun Wx hSx => by go_simp⟩) hS ?_
                  try simp only [Act.put, List.setIfInBounds_toArray, List.set_cons_zero, List.set_cons_succ]
                  refine wpAnyH_take (i := 9) (oi := ⟨some 10, _, _, _, _, _⟩) (v := .int .i64 0) rfl (by kernel_rfl) (by kernel_rfl) (by kernel_rfl) (fun _ _ _ h => h) (Or.inl ⟨by rfl, fun Wx hSx => by go_simp⟩) hS ?_
                  try simp only [Act.put, List.setIfInBounds_toArray, List.set_cons_zero, List.set_cons_succ]
                  refine wpAnyH_done (by kernel_rfl) ?_ _
                  have HB3 := Aside0.mk hS.1
                  clear hS hu144 hi144 hj144
                  go_wp2
                  go_ret3
                  refine ⟨below_step HI.out.dg.kp HB3.out, .inr ⟨HEZ.out, vg, vf, rfl, ?_, ?_⟩⟩
                  · rw [← HGF.out.1]
                    have := HVG.out.1
                    refine own_less (own_move this (fun k hk => HVF.out.2.block k (own_lt this k hk))) ?_
                    exact Nat.le_trans HI.out.dg.kp.size HB1.out.1.size
                  · rw [← HGF.out.2]
                    refine own_less HVF.out.1 ?_
                    exact Nat.le_trans HI.out.dg.kp.size HB2.out.1.size
                · have HX := Aside0.mk (And.intro hxL hxn)
                  have HJ := Aside0.mk (HI.out.next (V.map (·.2.2) ++ [x.2.2]) wa hwa hkp hit)
                  have HLESS := Aside0.mk (And.intro HI.out.it.seen hit.seen)
                  have hen' := hen
                  clear hwa hkp hsz hit hxL hxn hen'
                  have c0 : wb.cell? ⟨bs, 0, none⟩ = some (.int .i64 sn) := blk_cell HJ.out.dg.st 0
                  by_cases hs : x.1 = sn
                  · have hq : (x.1 == sn) = true := by simpa using hs
                    have HJ2 : Aside0 (GInv w bn bs rb wp m gb r cl nn uu (.slice A ls.length c) sn lo hi (tmOf l) (dFail ls sn l u) ls L (V ++ [x]) ((V ++ [x]).map (·.2.2)) wb) := ⟨by
                      rw [List.map_append]
                      exact HJ.out.pass x HX.out.1 (by unfold goodU; rw [if_pos hs]) (fun h => absurd hs h)⟩
                    clear hs
                    go_wp2
                    exact ⟨⟨V ++ [x], HJ2⟩, by rw [HLESS.out.1, HLESS.out.2]; exact leftN_less HX.out.1 HX.out.2⟩
                  · have hq : (x.1 == sn) = false := by simpa using hs
                    have HSN := Aside0.mk hs
                    have c1 : wb.cell? ⟨bn, 2, none⟩ = some (.slice A ls.length c) := blk_cell HJ.out.dg.net 2
                    clear hs
                    go_wp2
                    clear c0 c1 hnx hen
                    have HK0 : Aside0 (Below wb.heap.size wb wb ∧ wb.ownsRow wb.heap.size 3 1 (.slice none 0 0) (brU (tmOf l) (dFail ls sn l u) x.1 (ls.take 0)).length (ints (brU (tmOf l) (dFail ls sn l u) x.1 (ls.take 0)))) := ⟨Below.refl _ _, rfl, .inl ⟨rfl, rfl⟩⟩
                    go_loopw [23, 155] (fun vs v wr => ∃ j : Nat, v = .int .i64 j ∧ j ≤ ls.length ∧ Aside0 (Below wb.heap.size wb wr ∧ wr.ownsRow wb.heap.size 3 1 vs (brU (tmOf l) (dFail ls sn l u) x.1 (ls.take j)).length (ints (brU (tmOf l) (dFail ls sn l u) x.1 (ls.take j))))) (fun _ v _ => ls.length - (intOf v).toNat)
                    case atStart => exact ⟨0, rfl, Nat.zero_le _, HK0⟩
                    case round =>
                      obtain ⟨j, rfl, hjle, HK⟩ := hrel
                      clear HK0
                      obtain ⟨wo, rfl⟩ : ∃ wo, wo = wr := ⟨_, rfl⟩
                      by_cases hgo : j < ls.length
                      · obtain ⟨y, hy⟩ : ∃ y, y = ls[j] := ⟨_, rfl⟩
                        have HL := Aside0.mk hy
                        clear hy
                        have hrd : PB.rd_T88 ls (j : Int) = y := by rw [HL.out]; simp [PB.rd_T88, List.getElem?_eq_getElem hgo]
                        have ea := PB.at_T88 (Kd.C_below HR.out.1 (HJ.out.keep HK.out.1).dg.kp) (j : Int) (by omega) (by omega)
                        rw [hrd, Int.toNat_natCast] at ea
                        obtain ⟨ad, rfl, e0, e1, e2, e3, e4, e5⟩ := ea
                        clear hrd
                        have hj256 : j < 256 := by have := HLEN.out; omega
                        have hwi : IntKind.i64.wrap ((j : Int) + 1) = (j : Int) + 1 := by rw [i64_w]; unfold wrap64; omega
                        obtain ⟨lb, hlb⟩ : ∃ lb, lb = wo.heap.size := ⟨_, rfl⟩
                        have hbx : (wo.alloc (.cells #[.int .i64 y.f0, .int .i64 y.f1, .int .i64 y.f2.f0, .int .i64 y.f2.f1, .int .i64 y.f3, .bool y.f4] 88)).heap[lb]? = some (.cells #[.int .i64 y.f0, .int .i64 y.f1, .int .i64 y.f2.f0, .int .i64 y.f2.f1, .int .i64 y.f3, .bool y.f4] 88 (0, 0)) := by rw [hlb]; exact blk_new wo _
                        have hBx : Below wo.heap.size wo (wo.alloc (.cells #[.int .i64 y.f0, .int .i64 y.f1, .int .i64 y.f2.f0, .int .i64 y.f2.f1, .int .i64 y.f3, .bool y.f4] 88)) := below_alloc (Below.refl _ _) _
                        go_wp2_with ((with_reducible refine gate_dst (N := 159) rfl ?_); refine hold ?_)
                        apply unhold
                        obtain ⟨W1, hW1⟩ : ∃ W1, W1 = wo.alloc (.cells #[.int .i64 y.f0, .int .i64 y.f1, .int .i64 y.f2.f0, .int .i64 y.f2.f1, .int .i64 y.f3, .bool y.f4] 88) := ⟨_, rfl⟩
                        rw [← hW1] at hbx hBx ⊢
                        rw [← hlb]
                        have HB1 := Aside0.mk (below_step HK.out.1 hBx)
                        have HO1 : Aside0 (W1.ownsRow wb.heap.size 3 1 u23 (brU (tmOf l) (dFail ls sn l u) x.1 (ls.take j)).length (ints (brU (tmOf l) (dFail ls sn l u) x.1 (ls.take j)))) := ⟨own_move HK.out.2 (fun k hk => hBx.block k (own_lt HK.out.2 k hk))⟩
                        have HBX := Aside0.mk hbx
                        clear hBx hlb hW1 e0 e1 e2 e3 e4 e5
                        have f0 : W1.cell? ⟨lb, 0, none⟩ = some (.int .i64 y.f0) := blk_cell hbx 0
                        have f1 : W1.cell? ⟨lb, 1, none⟩ = some (.int .i64 y.f1) := blk_cell hbx 1
                        have f2 : W1.cell? ⟨lb, 2, none⟩ = some (.int .i64 y.f2.f0) := blk_cell hbx 2
                        have f3 : W1.cell? ⟨lb, 3, none⟩ = some (.int .i64 y.f2.f1) := blk_cell hbx 3
                        have f4 : W1.cell? ⟨lb, 4, none⟩ = some (.int .i64 y.f3) := blk_cell hbx 4
                        have f5 : W1.cell? ⟨lb, 5, none⟩ = some (.bool y.f4) := blk_cell hbx 5
                        have hym : y ∈ ls := by rw [HL.out]; exact List.getElem_mem hgo
                        have hlk := HO.out.net.links y hym
                        have hu2 := HO.out.net.u2
                        have HLK := Aside0.mk (And.intro hlk hu2)
                        have hsnoc := brU_snoc (tmOf l) (dFail ls sn l u) x.1 (ls.take j) y
                        rw [show ls.take j ++ [y] = ls.take (j + 1) by rw [HL.out]; exact (take_snoc ls j hgo).symm] at hsnoc
                        have HSNOC := Aside0.mk hsnoc
                        clear hbx hym hlk hu2 hsnoc
                        by_cases hto : y.f1 = x.1
                        · have hq2 : (y.f1 == x.1) = true := by simpa using hto
                          have HTO := Aside0.mk hto
                          obtain ⟨b, hb⟩ : ∃ b, b = broughtB (tmOf l) (dFail ls sn l u) y := ⟨_, rfl⟩
                          have HC76 : Aside0 (∀ W, Below W1.heap.size W1 W → Calls Try.prog 76 #[.pointer (some ⟨rb, 0, none⟩), .agg #[.int .i64 y.f0, .int .i64 y.f1, .int .i64 y.f2.f0, .int .i64 y.f2.f1, .int .i64 y.f3, .bool y.f4]] W fun e w' => e = .returned (.bool b) ∧ Below W.heap.size W w') := ⟨fun W h => by
                            rw [hb]
                            have hlk := HLK.out.1
                            have ht := hlk.2.2.2.2
                            unfold timedP at ht
                            exact brought_calls rb wp m (tmOf l) _ y W (HJ.out.keep (below_step HB1.out h)).dg.run HTM.out (by omega) hlk.2.2.1.1 (by have := HLK.out.2; omega)⟩
                          have HBB := Aside0.mk hb
                          clear hto hb
                          go_wp2_with fail
                          refine (HC76.out _ (Below.refl _ _)).mono ?_
                          rintro e w8 ⟨rfl, hb8⟩
                          have HB8 := Aside0.mk (below_step HB1.out hb8)
                          have HO8 : Aside0 (w8.ownsRow wb.heap.size 3 1 u23 (brU (tmOf l) (dFail ls sn l u) x.1 (ls.take j)).length (ints (brU (tmOf l) (dFail ls sn l u) x.1 (ls.take j)))) := ⟨own_move HO1.out (fun k hk => hb8.block k (own_lt HO1.out k hk))⟩
                          have HBX8 := Aside0.mk (blk_below HBX.out hb8)
                          clear f0 f1 f2 f3 f4 f5 hb8
                          cases b
                          · have HE2 : Aside0 (brU (tmOf l) (dFail ls sn l u) x.1 (ls.take (j + 1)) = brU (tmOf l) (dFail ls sn l u) x.1 (ls.take j)) := ⟨by rw [HSNOC.out, if_neg (fun h => by rw [← HBB.out] at h; exact absurd h.2 (by decide))]⟩
                            have HK2 : Aside0 (Below wb.heap.size wb w8 ∧ w8.ownsRow wb.heap.size 3 1 u23 (brU (tmOf l) (dFail ls sn l u) x.1 (ls.take (j + 1))).length (ints (brU (tmOf l) (dFail ls sn l u) x.1 (ls.take (j + 1))))) := ⟨HB8.out, by rw [HE2.out]; exact HO8.out⟩
                            go_wp2
                            go_roundw
                            case rel => exact ⟨j + 1, by go_num, by omega, HK2⟩
                            case measure => simp [intOf]; omega
                          · have HE2 : Aside0 (brU (tmOf l) (dFail ls sn l u) x.1 (ls.take (j + 1)) = brU (tmOf l) (dFail ls sn l u) x.1 (ls.take j) ++ [y.f3]) := ⟨by rw [HSNOC.out, if_pos ⟨HTO.out, HBB.out.symm⟩]⟩
                            have g4 : w8.cell? ⟨lb, 4, none⟩ = some (.int .i64 y.f3) := blk_cell HBX8.out 4
                            have hA : Below w8.heap.size w8 (w8.alloc (.cells #[.int .i64 y.f3] 3)) := below_alloc (Below.refl _ _) _
                            have HN : Aside0 ((w8.alloc (.cells #[.int .i64 y.f3] 3)).ownsRow wb.heap.size 3 1 u23 (brU (tmOf l) (dFail ls sn l u) x.1 (ls.take j)).length (ints (brU (tmOf l) (dFail ls sn l u) x.1 (ls.take j))) ∧ Below wb.heap.size wb (w8.alloc (.cells #[.int .i64 y.f3] 3)) ∧ ∀ jj v, [Value.int .i64 y.f3][jj]? = some v → (w8.alloc (.cells #[.int .i64 y.f3] 3)).cell? ((⟨w8.heap.size, 0, none⟩ : Addr).add jj) = some v) := ⟨HO8.out.alloc _, below_step HB8.out hA, World.news_of_block (w := w8.alloc (.cells #[.int .i64 y.f3] 3)) (cs := #[.int .i64 y.f3]) (blk_new w8 _)⟩
                            have hll : (brU (tmOf l) (dFail ls sn l u) x.1 (ls.take j)).length ≤ 256 := by
                              have h1 := brU_len (tmOf l) (dFail ls sn l u) x.1 (ls.take j)
                              have h2 := HLEN.out
                              rw [List.length_take] at h1
                              omega
                            obtain ⟨US, hUS⟩ : ∃ US, US = brU (tmOf l) (dFail ls sn l u) x.1 (ls.take j) := ⟨_, rfl⟩
                            rw [← hUS] at HN hll HE2
                            obtain ⟨i3, hi3, hy0, hy1, hy2⟩ := info_parts info3
                            clear hA hUS HO8 HO1 HK
                            go_wp2_with ((with_reducible refine gate_dst (N := 172) rfl ?_); refine hold ?_)
                            refine wpList_append_lies _ rfl (.tmp 168) (.tmp 171) 33 rfl wb.heap.size 3 i3 _ 1 8 Try.underlying33 hi3 hy0 hy1 hy2 rfl (by decide) u23 US.length (ints US) (by go_simp) HN.out.1 ⟨w8.heap.size, 0, none⟩ 1 1 [.int .i64 y.f3] (by go_simp) rfl HN.out.2.2 (by simp [Value.oneCell']) (by decide) (by unfold maxLen; omega) (by omega) HN.out.2.1.size _ rfl ?_
                            intro g cap w9 hown9 hg9 hor hlt9
                            have HK9 : Aside0 (Below wb.heap.size wb w9 ∧ w9.ownsRow wb.heap.size 3 1 (.slice (some ⟨g, 0, none⟩) (US.length + 1) cap) (brU (tmOf l) (dFail ls sn l u) x.1 (ls.take (j + 1))).length (ints (brU (tmOf l) (dFail ls sn l u) x.1 (ls.take (j + 1))))) := by
                              refine ⟨HN.out.2.1.trans ((Kp.grown hg9).below HN.out.2.1.size (fun k hk => own_base HN.out.1 k hk.symm)), ?_⟩
                              rw [HE2.out]
                              simpa [ints] using hown9
                            clear hown9 hg9 hor hlt9
                            obtain ⟨NN, hNN⟩ : ∃ NN, NN = US.length + 1 := ⟨_, rfl⟩
                            rw [← hNN] at HK9 ⊢
                            clear hNN hll g4 HN HE2 hi3 hy0 hy1 hy2
                            go_wp2
                            go_roundw
                            case rel => exact ⟨j + 1, by go_num, by omega, HK9⟩
                            case measure => simp [intOf]; omega
                        · have hq2 : (y.f1 == x.1) = false := by simpa using hto
                          have HE2 : Aside0 (brU (tmOf l) (dFail ls sn l u) x.1 (ls.take (j + 1)) = brU (tmOf l) (dFail ls sn l u) x.1 (ls.take j)) := ⟨by rw [HSNOC.out, if_neg (fun h => hto h.1)]⟩
                          have HK2 : Aside0 (Below wb.heap.size wb W1 ∧ W1.ownsRow wb.heap.size 3 1 u23 (brU (tmOf l) (dFail ls sn l u) x.1 (ls.take (j + 1))).length (ints (brU (tmOf l) (dFail ls sn l u) x.1 (ls.take (j + 1))))) := ⟨HB1.out, by rw [HE2.out]; exact HO1.out⟩
                          clear hto
                          go_wp2
                          go_roundw
                          case rel => exact ⟨j + 1, by go_num, by omega, HK2⟩
                          case measure => simp [intOf]; omega
                      · obtain rfl : j = ls.length := by omega
                        have hb0 := HK.out.1
                        have ho0 := HK.out.2
                        rw [List.take_length] at ho0
                        have HJ3 := Aside0.mk (HJ.out.keep hb0)
                        obtain ⟨US, hUS⟩ : ∃ US, US = brU (tmOf l) (dFail ls sn l u) x.1 ls := ⟨_, rfl⟩
                        rw [← hUS] at ho0
                        have hll : US.length ≤ 256 := by
                          have h1 := brU_len (tmOf l) (dFail ls sn l u) x.1 ls
                          have h2 := HLEN.out
                          rw [← hUS] at h1
                          omega
                        obtain ⟨Au, cu, hvu, hcu, hIA, -⟩ := own_ints_any ho0 (by omega)
                        have HUS := Aside0.mk hUS
                        have HIA := Aside0.mk hIA
                        subst hvu
                        have hgU : goodU (tmOf l) (dFail ls sn l u) sn ls x.1 = onlyU US := by unfold goodU; rw [if_neg HSN.out, ← hUS]
                        have HGU := Aside0.mk hgU
                        have HUM : Aside0 (∀ v ∈ US, -1 ≤ v ∧ v < 20) := ⟨fun v hv => by
                          rw [hUS] at hv
                          obtain ⟨y, hy, e⟩ := brU_mem hv
                          have h1 := (HO.out.net.links y hy).2.2.1
                          have h2 := HO.out.net.u2
                          omega⟩
                        have hX1 := HX.out.1
                        clear hjle hgo HK hb0 ho0 hUS hIA hcu hgU
                        cases US with
                        | nil =>
                          have HFIN : Aside0 (diagE nn uu ls sn lo hi l u = 14) := ⟨by
                            rw [HRE2.out, if_neg (HJ3.out.bad x hX1 HSN.out HUS.out.symm)]⟩
                          clear hX1
                          go_wp2
                          go_ret3
                          exact DiagPost.fail HJ3.out.dg.kp HFIN.out (by decide)
                        | cons a rr =>
                          have hok : x.1 ≠ sn → brU (tmOf l) (dFail ls sn l u) x.1 ls ≠ [] := fun _ => by rw [← HUS.out]; simp
                          have h0l : 0 < (a :: rr).length := by simp
                          obtain ⟨ad, hAu, -⟩ := HIA.out.2.2 h0l
                          subst hAu
                          have HMIN : Aside0 (∀ W, IntsAt W (some ad) (a :: rr) → Calls Try.prog 77 #[.slice (some ad) (a :: rr).length cu] W fun e w' => e = .returned (.int .i64 (minL (a :: rr))) ∧ w' = W) := ⟨fun W h => min_calls ad cu (a :: rr) W h h0l⟩
                          have HMAX : Aside0 (∀ W, IntsAt W (some ad) (a :: rr) → Calls Try.prog 78 #[.slice (some ad) (a :: rr).length cu] W fun e w' => e = .returned (.int .i64 (maxiL (a :: rr))) ∧ w' = W) := ⟨fun W h => max_calls ad cu (a :: rr) W h h0l⟩
                          have c0 : wo.cell? ad = some (.int .i64 a) := ints_cells HIA.out 0 h0l
                          have hmm := min_eq_max a rr
                          have ha20 := HUM.out a List.mem_cons_self
                          obtain ⟨NL, hNL⟩ : ∃ NL, NL = (a :: rr).length := ⟨_, rfl⟩
                          obtain ⟨mi, hmi⟩ : ∃ mi, mi = minL (a :: rr) := ⟨_, rfl⟩
                          obtain ⟨ma, hma⟩ : ∃ ma, ma = maxiL (a :: rr) := ⟨_, rfl⟩
                          rw [← hmi, ← hma] at hmm
                          rw [← hmi, ← hNL] at HMIN
                          rw [← hma, ← hNL] at HMAX
                          rw [← hNL] at h0l hll ⊢
                          have HOK := Aside0.mk hok
                          have HX1 := Aside0.mk hX1
                          clear hmi hma hNL hok hX1
                          by_cases hall : ∀ y ∈ rr, y = a
                          · have hq1 : (mi == ma) = true := by simpa using hmm.2 hall
                            by_cases ha0 : 0 ≤ a
                            · obtain ⟨an, rfl⟩ := Int.eq_ofNat_of_zero_le ha0
                              have han : an < 20 := by omega
                              have HJ4 : Aside0 (GInv w bn bs rb wp m gb r cl nn uu (.slice A ls.length c) sn lo hi (tmOf l) (dFail ls sn l u) ls L (V ++ [x]) ((V ++ [x]).map (·.2.2)) (wo.setCell ⟨gb, an, none⟩ (.bool true))) := ⟨by
                                rw [List.map_append]
                                exact HJ3.out.mark x HX1.out an (by rw [HGU.out]; unfold onlyU; exact if_pos ⟨hall, ha0⟩) HOK.out HNE2.out⟩
                              have hg := HJ3.out.good
                              have hg2 : ∃ bb, wo.cell? ⟨gb, an, none⟩ = some (.bool bb) := by
                                refine ⟨(setUs noB (V.filterMap (fun e => goodU (tmOf l) (dFail ls sn l u) sn ls e.1)))[an]'(by rw [setUs_len]; exact han), ?_⟩
                                rw [blk_cell hg an]
                                simp [setCs, setUs_len, noB, han]
                              obtain ⟨bb, hg2⟩ := hg2
                              have hg3 : wo.frozen? ⟨gb, an, none⟩ = false := blk_frozen hg an
                              clear hall hmm ha0 hg
                              go_wp2_with fail
                              refine (HMIN.out _ HIA.out).mono ?_
                              rintro e wm ⟨rfl, rfl⟩
                              go_wp2_with fail
                              refine (HMAX.out _ HIA.out).mono ?_
                              rintro e wm ⟨rfl, rfl⟩
                              go_wp2
                              exact ⟨⟨V ++ [x], HJ4⟩, by rw [HLESS.out.1, HJ4.out.it.seen, List.map_append]; exact leftN_less HX.out.1 HX.out.2⟩
                            · have hd0 : decide (0 ≤ a) = false := by simpa using ha0
                              have HJ4 : Aside0 (GInv w bn bs rb wp m gb r cl nn uu (.slice A ls.length c) sn lo hi (tmOf l) (dFail ls sn l u) ls L (V ++ [x]) ((V ++ [x]).map (·.2.2)) wo) := ⟨by
                                rw [List.map_append]
                                exact HJ3.out.pass x HX1.out (by rw [HGU.out]; unfold onlyU; exact if_neg (fun h => ha0 h.2)) HOK.out⟩
                              clear hall hmm ha0
                              go_wp2_with fail
                              refine (HMIN.out _ HIA.out).mono ?_
                              rintro e wm ⟨rfl, rfl⟩
                              go_wp2_with fail
                              refine (HMAX.out _ HIA.out).mono ?_
                              rintro e wm ⟨rfl, rfl⟩
                              go_wp2
                              exact ⟨⟨V ++ [x], HJ4⟩, by rw [HLESS.out.1, HJ4.out.it.seen, List.map_append]; exact leftN_less HX.out.1 HX.out.2⟩
                          · have hq1 : (mi == ma) = false := by
                              cases hc : mi == ma
                              · rfl
                              · exact absurd (hmm.1 (by simpa using hc)) hall
                            have HJ4 : Aside0 (GInv w bn bs rb wp m gb r cl nn uu (.slice A ls.length c) sn lo hi (tmOf l) (dFail ls sn l u) ls L (V ++ [x]) ((V ++ [x]).map (·.2.2)) wo) := ⟨by
                              rw [List.map_append]
                              exact HJ3.out.pass x HX1.out (by rw [HGU.out]; unfold onlyU; exact if_neg (fun h => hall h.1)) HOK.out⟩
                            clear hall hmm
                            go_wp2_with fail
                            refine (HMIN.out _ HIA.out).mono ?_
                            rintro e wm ⟨rfl, rfl⟩
                            go_wp2_with fail
                            refine (HMAX.out _ HIA.out).mono ?_
                            rintro e wm ⟨rfl, rfl⟩
                            go_wp2
                            exact ⟨⟨V ++ [x], HJ4⟩, by rw [HLESS.out.1, HJ4.out.it.seen, List.map_append]; exact leftN_less HX.out.1 HX.out.2⟩
        · have HC1 : Aside0 (∀ W, Calls Try.prog 72 #[.int .i64 T0, .int .i64 lo, .int .i64 hi] W fun e w' => e = .returned (.bool false) ∧ w' = W) := ⟨fun W => by have := within_same T0 lo hi W; rw [decide_eq_false hin] at this; exact this⟩
          have HFIN : Aside0 (diagE nn uu ls sn lo hi l u = 14) := ⟨by
            rw [HRE.out]; unfold runErr; rw [HT.out]; exact if_neg hin⟩
          clear hin
          go_wp2_with fail
          refine (HC1.out _).mono ?_
          rintro e w7 ⟨rfl, rfl⟩
          go_wp2
          go_ret3
          exact DiagPost.fail HG2.out.kp HFIN.out (by decide)
end Go.Proofs.Ytgmglpnoppcnkaa
end
section
namespace Go.Proofs.Ytgmglpnoppcnkaa
open Go.RowKit Go.Proofs.YtgmglpnoppcnkaaW.PrintWords Go.Proofs.YtgmglpnoppcnkaaW.PrintLast Go.Proofs.YtgmglpnoppcnkaaW.PrintMore
set_option linter.unusedVariables false
set_option linter.unusedSimpArgs false
set_option maxRecDepth 100000
abbrev LinksAt (w : World) (A : Option Addr) (ls : List Lk) : Prop := Kd.C PB.k88 w A ls.length ls
abbrev DuesAt (w : World) (A : Option Addr) (l : List Du) : Prop := Kd.C PB.k41 w A l.length l
theorem wrap_nat {i n : Nat} (h : i < n) (hn : n ≤ 9223372036854775807) : wrap64 ((i : Int) + 1) = ((i + 1 : Nat) : Int) := by unfold wrap64; omega
theorem same_loop (l : List PB.S41) (n : Nat) (hn : n = l.length) (hl : n ≤ 9223372036854775807) : ∀ d i, i + d = n → ∃ k, PB.tidewalllaw08_same.l0 k l l (i : Int) = some true := by
  intro d
  induction d with
  | zero =>
    intro i hi
    refine ⟨1, ?_⟩
    unfold PB.tidewalllaw08_same.l0
    rw [if_neg (by omega)]
  | succ d ih =>
    intro i hi
    obtain ⟨k, hk⟩ := ih (i + 1) (by omega)
    refine ⟨k + 1, ?_⟩
    unfold PB.tidewalllaw08_same.l0
    rw [if_pos (by omega), if_pos (by omega), if_pos (by omega), if_neg (by simp), wrap_nat (n := n) (by omega) hl]
    exact hk
theorem same_refl (l : List PB.S41) (hl : l.length ≤ 9223372036854775807) : ∃ k, PB.tidewalllaw08_same.f k l l = some true := by
  obtain ⟨k, hk⟩ := same_loop l l.length rfl hl l.length 0 (by omega)
  refine ⟨k, ?_⟩
  unfold PB.tidewalllaw08_same.f
  rw [if_pos rfl]
  exact hk
theorem equal_loop (l : List Int) (n : Nat) (hn : n = l.length) (hl : n ≤ 9223372036854775807) : ∀ d i, i + d = n → ∃ k, PB.tidewalllaw08_equal.l0 k l l (i : Int) = some true := by
  intro d
  induction d with
  | zero =>
    intro i hi
    refine ⟨1, ?_⟩
    unfold PB.tidewalllaw08_equal.l0
    rw [if_neg (by omega)]
  | succ d ih =>
    intro i hi
    obtain ⟨k, hk⟩ := ih (i + 1) (by omega)
    refine ⟨k + 1, ?_⟩
    unfold PB.tidewalllaw08_equal.l0
    rw [if_pos (by omega), if_pos (by omega), if_pos (by omega), if_pos rfl, wrap_nat (n := n) (by omega) hl]
    exact hk
theorem equal_refl (l : List Int) (hl : l.length ≤ 9223372036854775807) : ∃ k, PB.tidewalllaw08_equal.f k l l = some true := by
  obtain ⟨k, hk⟩ := equal_loop l l.length rfl hl l.length 0 (by omega)
  refine ⟨k, ?_⟩
  unfold PB.tidewalllaw08_equal.f
  rw [if_pos rfl]
  exact hk
theorem same_true (A0 A1 : Option Addr) (c0 c1 : Nat) (l : List PB.S41) (w : World) (h0 : DuesAt w A0 l) (k0 : l.length ≤ c0) (h1 : DuesAt w A1 l) (k1 : l.length ≤ c1) :
    Calls Try.prog 34 #[.slice A0 l.length c0, .slice A1 l.length c1] w fun e w' => e = .returned (.bool true) ∧ Below w.heap.size w w' := by
  obtain ⟨k, hk⟩ := same_refl l h0.2.1
  exact (PB.tidewalllaw08_same.calls k A0 c0 l A1 c1 l true w h0 k0 h1 k1 hk).mono fun e w' ⟨he, hd⟩ => ⟨he, hd.below⟩
theorem equal_true (A0 A1 : Option Addr) (c0 c1 : Nat) (l : List Int) (w : World) (h0 : IntsAt w A0 l) (k0 : l.length ≤ c0) (h1 : IntsAt w A1 l) (k1 : l.length ≤ c1) :
    Calls Try.prog 27 #[.slice A0 l.length c0, .slice A1 l.length c1] w fun e w' => e = .returned (.bool true) ∧ Below w.heap.size w w' := by
  obtain ⟨k, hk⟩ := equal_refl l h0.2.1
  exact (PB.tidewalllaw08_equal.calls k A0 c0 l A1 c1 l true w h0 k0 h1 k1 hk).mono fun e w' ⟨he, hd⟩ => ⟨he, hd.below⟩
theorem N_any (w : World) : Calls Try.prog 49 #[] w fun e w' => ∃ A c, e = .returned (.agg #[.int .i64 4, .int .i64 3, .slice A NL.length c]) ∧ NL.length ≤ c ∧ LinksAt w' A NL ∧ Below w.heap.size w w' :=
  (PB.tidewalllaw08_N.calls 4 3 NL w N_f).mono fun e w' ⟨v, he, hr, hb⟩ => by
    obtain ⟨A, c, rfl, hc, hC⟩ := Kd.R_reads hr
    exact ⟨A, c, he, hc, hC, hb⟩
theorem S_any (w : World) : Calls Try.prog 50 #[] w fun e w' => e = .returned (.agg #[.int .i64 0, .int .i64 100, .int .i64 100]) ∧ Below w.heap.size w w' := PB.tidewalllaw08_S.calls 0 100 100 w S_f
theorem fine_any (w : World) : Calls Try.prog 51 #[] w fun e w' => ∃ A c, e = .returned (.slice A [(1 : Int), 1, 1].length c) ∧ [(1 : Int), 1, 1].length ≤ c ∧ IntsAt w' A [1, 1, 1] ∧ Below w.heap.size w w' :=
  (PB.tidewalllaw08_fine.calls [1, 1, 1] w fine_f).mono fun e w' ⟨v, he, hr, hb⟩ => by
    obtain ⟨A, c, rfl, hc, hC⟩ := Kd.R_reads hr
    exact ⟨A, c, he, hc, hC, hb⟩
theorem due_any (x : Int) (w : World) : Calls Try.prog 53 #[.int .i64 x] w fun e w' => e = .returned (.agg #[.int .i64 3, .int .i64 x]) ∧ Below w.heap.size w w' := PB.tidewalllaw08_due.calls x 3 x w rfl
theorem span_any (x y : Int) (w : World) : Calls Try.prog 52 #[.int .i64 x, .int .i64 y] w fun e w' => e = .returned (.agg #[.int .i64 x, .int .i64 y]) ∧ Below w.heap.size w w' := PB.tidewalllaw08_span.calls x y x y w rfl
theorem Worst_any (n : Nat) (uu : Int) (A : Option Addr) (c : Nat) (ls : List Lk) (sn lo hi : Int) (A2 : Option Addr) (c2 : Nat) (st : List Int) (f : Nat) (w : World)
    (hr : LinksAt w A ls) (hc : ls.length ≤ c) (hr2 : IntsAt w A2 st) (hc2 : st.length ≤ c2) (h : validE n uu ls sn lo hi st f = 0) :
    Calls Try.prog 16 #[.agg #[.int .i64 n, .int .i64 uu, .slice A ls.length c], .agg #[.int .i64 sn, .int .i64 lo, .int .i64 hi], .slice A2 st.length c2, .int .i64 f] w fun e w' => ∃ A c, e = .returned (.tuple #[.slice A (worstS n ls sn lo hi st f).length c, .int .i64 0]) ∧ (worstS n ls sn lo hi st f).length ≤ c ∧ DuesAt w' A (worstS n ls sn lo hi st f) ∧ Below w.heap.size w w' :=
  (Worst_ok n uu A c ls sn lo hi A2 c2 st f w hr hc hr2 hc2 h).mono fun e w' ⟨v, he, hv, hb⟩ => by
    obtain ⟨A, c, rfl, hc, hC⟩ := Kd.R_reads hv
    exact ⟨A, c, he, hc, hC, hb⟩
theorem Diag_any (nn uu : Int) (A : Option Addr) (c : Nat) (ls : List Lk) (sn lo hi : Int) (A3 : Option Addr) (c3 : Nat) (l : List Du) (u : Int) (w : World)
    (hr : LinksAt w A ls) (hc : ls.length ≤ c) (hr3 : DuesAt w A3 l) (hc3 : l.length ≤ c3) (hl : l.length ≤ 100000) :
    Calls Try.prog 24 #[.agg #[.int .i64 nn, .int .i64 uu, .slice A ls.length c], .agg #[.int .i64 sn, .int .i64 lo, .int .i64 hi], .slice A3 l.length c3, .int .i64 u] w (DiagPost w nn uu ls sn lo hi l u) := by
  by_cases h : startE nn uu ls sn lo hi = 0
  · by_cases hu : 0 ≤ u ∧ u ≤ 1000000000
    · obtain ⟨n, rfl, _⟩ := startE_ok h
      exact Diag_ok n uu A c ls sn lo hi A3 c3 l u w hr hc h hu hr3 hc3 hl
    · exact (Diag_until nn uu A c ls sn lo hi A3 c3 l u w hr hc h hu).mono fun e w' ⟨he, hb⟩ => by
        rw [he]
        exact DiagPost.fail hb (by unfold diagE; rw [if_pos h, if_neg hu]) (by decide)
  · exact (Diag_early nn uu A c ls sn lo hi A3 c3 l u w hr hc h).mono fun e w' ⟨he, hb⟩ => by
      rw [he]
      exact DiagPost.fail hb (by unfold diagE; rw [if_neg h]) h
theorem Diag_zero (nn uu : Int) (A : Option Addr) (c : Nat) (ls : List Lk) (sn lo hi : Int) (A3 : Option Addr) (c3 : Nat) (l : List Du) (u : Int) (w : World)
    (hr : LinksAt w A ls) (hc : ls.length ≤ c) (hr3 : DuesAt w A3 l) (hc3 : l.length ≤ c3) (hl : l.length ≤ 100000) (h : diagE nn uu ls sn lo hi l u = 0) :
    Calls Try.prog 24 #[.agg #[.int .i64 nn, .int .i64 uu, .slice A ls.length c], .agg #[.int .i64 sn, .int .i64 lo, .int .i64 hi], .slice A3 l.length c3, .int .i64 u] w fun e w' => ∃ A1 c1 A2 c2, e = .returned (.tuple #[.slice A1 (listB (dWork ls sn l u)).length c1, .slice A2 (listB (dFail ls sn l u)).length c2, .int .i64 0]) ∧
      (listB (dWork ls sn l u)).length ≤ c1 ∧ IntsAt w' A1 (listB (dWork ls sn l u)) ∧ (listB (dFail ls sn l u)).length ≤ c2 ∧ IntsAt w' A2 (listB (dFail ls sn l u)) ∧ Below w.heap.size w w' :=
  (Diag_any nn uu A c ls sn lo hi A3 c3 l u w hr hc hr3 hc3 hl).mono fun e w' ⟨hb, hx⟩ => by
    rcases hx with ⟨h1, _⟩ | ⟨_, v1, v2, he, h1, h2⟩
    · exact absurd h h1
    · have l1 := trueFrom_len (dWork ls sn l u) 0
      have l2 := trueFrom_len (dFail ls sn l u) 0
      have e1 : (dWork ls sn l u).length = 20 := by unfold dWork; rw [setUs_len]; rfl
      have e2 : (dFail ls sn l u).length = 20 := failB_len _
      obtain ⟨A1, c1, rfl, k1, i1, -⟩ := own_ints_any h1 (by unfold listB; omega)
      obtain ⟨A2, c2, rfl, k2, i2, -⟩ := own_ints_any h2 (by unfold listB; omega)
      exact ⟨A1, c1, A2, c2, he, k1, i1, k2, i2, hb⟩
theorem Blame_some (n : Nat) (uu : Int) (A : Option Addr) (c : Nat) (ls : List Lk) (sn lo hi : Int) (A2 : Option Addr) (c2 : Nat) (st : List Int) (f : Nat) (d : Du) (x : List Int) (w : World)
    (hr : LinksAt w A ls) (hc : ls.length ≤ c) (hr2 : IntsAt w A2 st) (hc2 : st.length ≤ c2) (h : askE n uu ls sn lo hi st f d = 0) (hb : blameL n ls sn hi st f d = some x) :
    Calls Try.prog 39 #[.agg #[.int .i64 n, .int .i64 uu, .slice A ls.length c], .agg #[.int .i64 sn, .int .i64 lo, .int .i64 hi], .slice A2 st.length c2, .int .i64 f, .agg #[.int .i64 d.f0, .int .i64 d.f1]] w fun e w' => ∃ A c, e = .returned (.tuple #[.slice A x.length c, .bool true, .int .i64 0]) ∧ x.length ≤ c ∧ IntsAt w' A x ∧ Below w.heap.size w w' :=
  (Blame_ok n uu A c ls sn lo hi A2 c2 st f d w hr hc hr2 hc2 h).mono fun e w' ⟨hw, hx⟩ => by
    rcases hx with ⟨h1, _⟩ | ⟨x', A, c, h1, he, hi, hc⟩
    · rw [hb] at h1; cases h1
    · rw [hb] at h1; cases h1
      exact ⟨A, c, he, hc, hi, hw⟩
/-- A new row of pairs. -/
theorem C_pairs {w : World} {b t : Nat} {cs : Array Value} (l : List PB.S41) (h : w.heap[b]? = some (.cells cs t (0, 0))) (hl : l.length ≤ 1000) (hc : ∀ (j : Nat) (p : PB.S41), l[j]? = some p → cs[j * 2]? = some (Value.int .i64 p.f0) ∧ cs[j * 2 + 1]? = some (Value.int .i64 p.f1)) : DuesAt w (some ⟨b, 0, none⟩) l := by
  refine ⟨rfl, by omega, fun _ => ⟨_, rfl, fun j p hj => ?_⟩⟩
  obtain ⟨h0, h1⟩ := hc j p hj
  have e0 := (blk_cell h (j * 2)).trans h0
  have e1 := (blk_cell h (j * 2 + 1)).trans h1
  refine ⟨[.int .i64 p.f0, .int .i64 p.f1], rfl, PB.k41_mk w p, fun i u hu => ?_⟩
  rw [Addr.add_mid, Nat.zero_add]
  have hi : i = 0 ∨ i = 1 := by
    have := (List.getElem?_eq_some_iff.1 hu).1
    simp at this
    omega
  rcases hi with rfl | rfl
  · cases hu
    exact e0
  · cases hu
    exact e1
theorem C_ints {w : World} {b t : Nat} {cs : Array Value} (l : List Int) (h : w.heap[b]? = some (.cells cs t (0, 0))) (hl : l.length ≤ 1000) (hc : ∀ (j : Nat) (p : Int), l[j]? = some p → cs[j]? = some (Value.int .i64 p)) : IntsAt w (some ⟨b, 0, none⟩) l := by
  refine ⟨rfl, by omega, fun _ => ⟨_, rfl, fun j p hj => ⟨[.int .i64 p], rfl, rfl, fun i u hu => ?_⟩⟩⟩
  have hi0 : i = 0 := by
    have := (List.getElem?_eq_some_iff.1 hu).1
    simpa using this
  subst hi0
  cases hu
  have e0 := (blk_cell h j).trans (hc j p hj)
  rw [Addr.add_mid, Nat.zero_add, Nat.add_zero, show j * (Kd.int .i64).sz = j from Nat.mul_one j]
  exact e0
end Go.Proofs.Ytgmglpnoppcnkaa
end
section
namespace Go.Proofs.Ytgmglpnoppcnkaa
open Go.RowKit Go.Proofs.YtgmglpnoppcnkaaW.PrintWords Go.Proofs.YtgmglpnoppcnkaaW.PrintLast Go.Proofs.YtgmglpnoppcnkaaW.PrintMore
open Go.ChangeShapes Go.WideShapes Go.ChangeAt Go.Deep
set_option linter.unusedVariables false
set_option linter.unusedSimpArgs false
set_option maxRecDepth 100000
theorem own : ownKnob Try.prog.godebug = none := by kernel_rfl
theorem laidOut : laidOutB Try.prog = true := by kernel_rfl
theorem cellsOf3 : Try.prog.cellsOf 3 = 1 := by kernel_rfl
theorem cellsOf4 : Try.prog.cellsOf 4 = 1 := by kernel_rfl
theorem cellsOf30 : Try.prog.cellsOf 30 = 1 := by kernel_rfl
theorem cellsOf32 : Try.prog.cellsOf 32 = 3 := by kernel_rfl
theorem cellsOf41 : Try.prog.cellsOf 41 = 2 := by kernel_rfl
theorem cellsOf43 : Try.prog.cellsOf 43 = 3 := by kernel_rfl
theorem cellsOf71 : Try.prog.cellsOf 71 = 2 := by kernel_rfl
theorem cellsOf88 : Try.prog.cellsOf 88 = 6 := by kernel_rfl
theorem list_of {α : Type} {n : Nat} {P : Nat → α → Prop} (h : ∀ i, i < n → ∃ y, P i y) : ∃ l : List α, l.length = n ∧ ∀ i y, l[i]? = some y → P i y := by
  induction n with
  | zero => exact ⟨[], rfl, fun i y h => by simp at h⟩
  | succ n ih =>
    obtain ⟨l, hl, hP⟩ := ih (fun i hi => h i (by omega))
    obtain ⟨y, hy⟩ := h n (by omega)
    refine ⟨l ++ [y], by simp [hl], fun i z hz => ?_⟩
    by_cases hi : i < n
    · rw [List.getElem?_append_left (by omega)] at hz
      exact hP i z hz
    · have : i = n := by
        have := (List.getElem?_eq_some_iff.1 hz).1
        simp [hl] at this
        omega
      subst this
      rw [List.getElem?_append_right (by omega), hl, Nat.sub_self] at hz
      cases hz
      exact hy
section
variable {H : Type} {enc : TypeId × Value → H} {w : World} {base : Nat} {spare : Nat → Bool} {held : Bool}
/-- An argument that is a slice of what Kd tells. -/
theorem open_rowK {α : Type} (d : Kd α) {t e : Nat} {v : Value} {x : DataW H} {p : List MemPlace} (ht : Try.prog.underlying t = some (.slice e)) (hC : Try.prog.cellsOf e = d.sz)
    (hread : ∀ (n : Nat) (cs : List Value) (x : DataW H × List MemPlace), DataW.trod enc Try.prog w base spare held n e cs = some x → ∃ y : α, d.K w y cs) (hv : ∃ a n c, v = .slice a n c) (h : DataW.Trod enc Try.prog w base spare held t v x p) :
    ∃ A c l, v = .slice A l.length c ∧ l.length ≤ c ∧ Kd.C d w A l.length l := by
  obtain ⟨a0, len0, cap0, rfl⟩ := hv
  obtain ⟨fuel, hf⟩ := h
  rcases open_slice ht hf with ⟨hcs, _⟩ | ⟨a, len, cap, m, n, D, Pl, hcs, hb, hl, hm, hmm, hx, hi⟩
  · simp [Value.cells] at hcs
    obtain ⟨rfl, rfl, rfl⟩ := hcs
    exact ⟨none, 0, [], rfl, Nat.le_refl _, rfl, by simp, fun h => by simp at h⟩
  · simp [Value.cells] at hcs
    obtain ⟨rfl, rfl, rfl⟩ := hcs
    have hlm : len0 ≤ m := by rw [hmm]; split <;> omega
    obtain ⟨l, hll, hP⟩ := list_of (n := len0) (P := fun i y => ∃ cs', d.K w y cs' ∧ ∀ j, j < d.sz → w.cell? ((a.add (i * d.sz)).add j) = cs'[j]?) (fun i hi0 => by
      obtain ⟨cs', hc, ht'⟩ := hi i (by omega)
      obtain ⟨y, hy⟩ := hread n cs' _ ht'
      obtain ⟨_, h2, h3⟩ := World.cells?_some hc
      rw [hC] at h3
      exact ⟨y, cs', hy, h3⟩)
    refine ⟨some a, cap0, l, by rw [hll], by omega, rfl, by unfold maxLen at hm; omega, fun _ => ⟨a, rfl, fun j y hj => ?_⟩⟩
    obtain ⟨cs', hK, hcell⟩ := hP j y hj
    refine ⟨cs', d.K_len hK, hK, fun i u hu => ?_⟩
    have hil : i < d.sz := by
      have := (List.getElem?_eq_some_iff.1 hu).1
      rw [d.K_len hK] at this
      exact this
    have := hcell i hil
    rw [hu] at this
    rw [← this]
    rw [← Go.Deep.add_add]
theorem fieldAt {t : Nat} {fs : Array Field} {n : Nat} {cs : List Value} {x : DataW H × List MemPlace} (hu : Try.prog.underlying t = some (.struct fs)) (h : DataW.trod enc Try.prog w base spare held n t cs = some x) (i ty off k : Nat)
    (hf : (fs[i]?).map (fun f => (f.type, f.offset)) = some (ty, off)) (hk : Try.prog.cellsOf ty = k) : ∃ m y, DataW.trod enc Try.prog w base spare held m ty ((cs.drop off).take k) = some y := by
  obtain ⟨xs, m, _, _, _, hxl, hg⟩ := DataW.trod_struct hu h
  cases hfi : fs[i]? with
  | none => rw [hfi] at hf; cases hf
  | some f =>
    rw [hfi] at hf
    simp only [Option.map_some, Option.some.injEq, Prod.mk.injEq] at hf
    have g := hg i f hfi
    have hil : i < xs.length := by
      have := (Array.getElem?_eq_some_iff.1 hfi).1
      omega
    rw [hf.1, hf.2, hk, List.getElem?_eq_getElem hil] at g
    exact ⟨m, _, g⟩
theorem cellsLen {t : Nat} {fs : Array Field} {n k : Nat} {cs : List Value} {x : DataW H × List MemPlace} (hu : Try.prog.underlying t = some (.struct fs)) (hC : Try.prog.cellsOf t = k) (h : DataW.trod enc Try.prog w base spare held n t cs = some x) : cs.length = k := by
  obtain ⟨xs, m, _, _, hl, _⟩ := DataW.trod_struct hu h
  rw [hl, hC]
/-- Two integers. -/
theorem read_two {t : Nat} {fs : Array Field} (hu : Try.prog.underlying t = some (.struct fs)) (hC : Try.prog.cellsOf t = 2) (h0 : (fs[0]?).map (fun f => (f.type, f.offset)) = some (3, 0)) (h1 : (fs[1]?).map (fun f => (f.type, f.offset)) = some (3, 1)) {n : Nat} {cs : List Value} {x : DataW H × List MemPlace}
    (h : DataW.trod enc Try.prog w base spare held n t cs = some x) : ∃ a b : Int, cs = [.int .i64 a, .int .i64 b] ∧ (Lit.int .i64 a).wf = true ∧ (Lit.int .i64 b).wf = true := by
  have hl := cellsLen hu hC h
  match cs, hl with
  | [c0, c1], _ =>
    obtain ⟨_, _, g0⟩ := fieldAt hu h 0 3 0 1 h0 cellsOf3
    obtain ⟨_, _, g1⟩ := fieldAt hu h 1 3 1 1 h1 cellsOf3
    obtain ⟨a, ha, _, wa⟩ := DataW.trod_int Try.underlying3 g0
    obtain ⟨b, hb, _, wb⟩ := DataW.trod_int Try.underlying3 g1
    simp at ha hb
    subst ha hb
    exact ⟨a, b, rfl, wa, wb⟩
theorem read71 {n : Nat} {cs : List Value} {x : DataW H × List MemPlace} (h : DataW.trod enc Try.prog w base spare held n 71 cs = some x) : ∃ y : PB.S41, PB.k41.K w y cs := by
  obtain ⟨a, b, rfl, _⟩ := read_two Try.underlying71 cellsOf71 rfl rfl h
  exact ⟨⟨a, b⟩, PB.k41_mk w ⟨a, b⟩⟩
theorem read88 {n : Nat} {cs : List Value} {x : DataW H × List MemPlace} (h : DataW.trod enc Try.prog w base spare held n 88 cs = some x) : ∃ y : PB.S88, PB.k88.K w y cs := by
  have hl := cellsLen Try.underlying88 cellsOf88 h
  match cs, hl with
  | [c0, c1, c2, c3, c4, c5], _ =>
    obtain ⟨_, _, g0⟩ := fieldAt Try.underlying88 h 0 3 0 1 rfl cellsOf3
    obtain ⟨_, _, g1⟩ := fieldAt Try.underlying88 h 1 3 1 1 rfl cellsOf3
    obtain ⟨_, _, g2⟩ := fieldAt Try.underlying88 h 2 41 2 2 rfl cellsOf41
    obtain ⟨_, _, g3⟩ := fieldAt Try.underlying88 h 3 3 4 1 rfl cellsOf3
    obtain ⟨_, _, g4⟩ := fieldAt Try.underlying88 h 4 4 5 1 rfl cellsOf4
    obtain ⟨a, ha, _⟩ := DataW.trod_int Try.underlying3 g0
    obtain ⟨b, hb, _⟩ := DataW.trod_int Try.underlying3 g1
    obtain ⟨p, q, hpq, _⟩ := read_two Try.underlying41 cellsOf41 rfl rfl g2
    obtain ⟨u, hu, _⟩ := DataW.trod_int Try.underlying3 g3
    obtain ⟨s, hs, _⟩ := DataW.trod_bool Try.underlying4 g4
    simp at ha hb hpq hu hs
    obtain ⟨rfl, rfl⟩ := hpq
    subst ha hb hu hs
    exact ⟨⟨a, b, ⟨p, q⟩, u, s⟩, PB.k88_mk w ⟨a, b, ⟨p, q⟩, u, s⟩⟩
theorem open_rcs66 {r : Reach} {b0 : Nat} {v : Value} {x : DataW H} {p : List MemPlace} (hv : Value.okWide Try.prog w r b0 66 v) (h : DataW.Trod enc Try.prog w base spare held 66 v x p) : ∃ A c l, v = .slice A l.length c ∧ l.length ≤ c ∧ DuesAt w A l :=
  open_rowK PB.k41 Try.underlying66 cellsOf71 (fun _ _ _ h => read71 h) (okWide_slice Try.underlying66 hv) h
/-- A network. -/
theorem open_net {r : Reach} {b0 : Nat} {v : Value} {x : DataW H} {p : List MemPlace} (hv : Value.okWide Try.prog w r b0 32 v) (h : DataW.Trod enc Try.prog w base spare held 32 v x p) :
    ∃ nn uu A c ls, v = .agg #[.int .i64 nn, .int .i64 uu, .slice A ls.length c] ∧ ls.length ≤ c ∧ LinksAt w A ls := by
  obtain ⟨cs, rfl, hsz⟩ := okWide_struct Try.underlying32 hv
  obtain ⟨fuel, hf⟩ := h
  obtain ⟨cs⟩ := cs
  simp only [Value.cells] at hf
  have hl := cellsLen Try.underlying32 cellsOf32 hf
  match cs, hl with
  | [c0, c1, c2], _ =>
    obtain ⟨_, _, g0⟩ := fieldAt Try.underlying32 hf 0 3 0 1 rfl cellsOf3
    obtain ⟨_, _, g1⟩ := fieldAt Try.underlying32 hf 1 3 1 1 rfl cellsOf3
    obtain ⟨m, _, g2⟩ := fieldAt Try.underlying32 hf 2 30 2 1 rfl cellsOf30
    obtain ⟨a, ha, _⟩ := DataW.trod_int Try.underlying3 g0
    obtain ⟨b, hb, _⟩ := DataW.trod_int Try.underlying3 g1
    simp at ha hb g2
    subst ha hb
    have hs : ∃ A n c, c2 = .slice A n c := by
      rcases open_slice Try.underlying30 g2 with ⟨hcs, _⟩ | ⟨a, len, cap, m, n, D, Pl, hcs, _⟩
      · simp at hcs; exact ⟨_, _, _, hcs⟩
      · simp at hcs; exact ⟨_, _, _, hcs⟩
    obtain ⟨A, n, c, rfl⟩ := hs
    obtain ⟨A', c', ls, e, hc, hC⟩ := open_rowK (e := 88) PB.k88 Try.underlying30 cellsOf88 (fun _ _ _ h => read88 h) ⟨A, n, c, rfl⟩ ⟨m, g2⟩
    cases e
    exact ⟨a, b, A, c, ls, rfl, hc, hC⟩
/-- A start. -/
theorem open_start {r : Reach} {b0 : Nat} {v : Value} {x : DataW H} {p : List MemPlace} (hv : Value.okWide Try.prog w r b0 43 v) (h : DataW.Trod enc Try.prog w base spare held 43 v x p) :
    ∃ sn lo hi, v = .agg #[.int .i64 sn, .int .i64 lo, .int .i64 hi] := by
  obtain ⟨cs, rfl, hsz⟩ := okWide_struct Try.underlying43 hv
  obtain ⟨fuel, hf⟩ := h
  obtain ⟨cs⟩ := cs
  simp only [Value.cells] at hf
  have hl := cellsLen Try.underlying43 cellsOf43 hf
  match cs, hl with
  | [c0, c1, c2], _ =>
    obtain ⟨_, _, g0⟩ := fieldAt Try.underlying43 hf 0 3 0 1 rfl cellsOf3
    obtain ⟨_, _, g1⟩ := fieldAt Try.underlying43 hf 1 41 1 2 rfl cellsOf41
    obtain ⟨a, ha, _⟩ := DataW.trod_int Try.underlying3 g0
    obtain ⟨p, q, hpq, _⟩ := read_two Try.underlying41 cellsOf41 rfl rfl g1
    simp at ha hpq
    obtain ⟨rfl, rfl⟩ := hpq
    subst ha
    exact ⟨a, p, q, rfl⟩
theorem open_int3 {r : Reach} {b0 : Nat} {v : Value} {x : DataW H} {p : List MemPlace} (hv : Value.okWide Try.prog w r b0 3 v) (h : DataW.Trod enc Try.prog w base spare held 3 v x p) : ∃ n, v = .int .i64 n ∧ -9223372036854775808 ≤ n ∧ n ≤ 9223372036854775807 := by
  obtain ⟨n, rfl⟩ := okWide_int Try.underlying3 hv
  obtain ⟨fuel, hf⟩ := h
  obtain ⟨m, hm, _, hw⟩ := DataW.trod_int Try.underlying3 hf
  simp [Value.cells] at hm
  subst hm
  exact ⟨n, rfl, bounds_i64 hw⟩
end
end Go.Proofs.Ytgmglpnoppcnkaa
end
section
namespace Go.Proofs.Ytgmglpnoppcnkaa.PR
open Go.RowKit Go.Proofs.YtgmglpnoppcnkaaW.PrintWords Go.Proofs.YtgmglpnoppcnkaaW.PrintLast Go.Proofs.YtgmglpnoppcnkaaW.PrintMore
attribute [local go_sem] max2_int min2_int max_two min_two max_three min_three max_four min_four   -- for this text's walks alone
set_option linter.unusedVariables false
set_option linter.unusedSimpArgs false
def errW : Option Int → Value
  | none => .nilIface
  | some c => .iface 0 (.int .i64 c)
theorem errW_none : errW none = .nilIface := rfl
theorem errW_some (c : Int) : errW (some c) = .iface 0 (.int .i64 c) := rfl
theorem info3 : (Try.prog.info? 3).map (fun i => (i.zero, i.size, i.bytes)) = some (some (.int .i64 0), 1, 8) := by kernel_rfl
structure S41 where
  f0 : Int
  f1 : Int
def z41 : S41 := ⟨(0 : Int), (0 : Int)⟩
def k41 : Kd S41 := Kd.iso (Kd.pair (Kd.int .i64) (Kd.int .i64)) (fun x : S41 => (x.f0, x.f1))
theorem k41_open {w : World} {x : S41} {cs : List Value} (h : k41.K w x cs) : cs = [.int .i64 x.f0, .int .i64 x.f1] := by
  obtain ⟨_, _, rfl, rfl, rfl⟩ := h
  exact rfl
theorem k41_mk (w : World) (x : S41)  : k41.K w x [.int .i64 x.f0, .int .i64 x.f1] := ⟨[.int .i64 x.f0], [.int .i64 x.f1], rfl, rfl, rfl⟩
theorem k41_mkM (w : World) (base : Nat) (ok : Nat → Prop) (x : S41)  : k41.M w base ok x [.int .i64 x.f0, .int .i64 x.f1] := ⟨[.int .i64 x.f0], [.int .i64 x.f1], rfl, rfl, rfl⟩
def rd_T41 (xs : List S41) (i : Int) : S41 := xs.getD i.toNat z41
theorem at_T41 {w : World} {A : Option Addr} {n : Nat} {xs : List S41} (h : Kd.C k41 w A n xs) (i : Int) (h0 : 0 ≤ i) (h1 : i < n) : ∃ ad , A = some ad ∧ w.cell? (ad.add (i.toNat * 2)) = some (.int .i64 (rd_T41 xs i).f0) ∧ w.cell? ⟨(ad.add (i.toNat * 2)).block, (ad.add (i.toNat * 2)).off + 1, none⟩ = some (.int .i64 (rd_T41 xs i).f1) := by
  obtain ⟨ad, c, e, _, hK, hc0⟩ := Kd.C_get h z41 i h0 h1
  have hc : ∀ j u, c[j]? = some u → w.cell? (ad.add (i.toNat * 2 + j)) = some u := hc0
  obtain rfl := k41_open hK
  exact ⟨ad, e, hc 0 _ rfl, by rw [← add_field _ _ 1 (by omega)]; exact hc 1 _ rfl⟩
structure S175 where
  f0 : Int
  f1 : Int
  f2 : S41
  f3 : Int
  f4 : Bool
def z175 : S175 := ⟨(0 : Int), (0 : Int), z41, (0 : Int), false⟩
def k175 : Kd S175 := Kd.iso (Kd.pair (Kd.int .i64) (Kd.pair (Kd.int .i64) (Kd.pair k41 (Kd.pair (Kd.int .i64) Kd.bool)))) (fun x : S175 => (x.f0, x.f1, x.f2, x.f3, x.f4))
theorem k175_open {w : World} {x : S175} {cs : List Value} (h : k175.K w x cs) : cs = [.int .i64 x.f0, .int .i64 x.f1, .int .i64 x.f2.f0, .int .i64 x.f2.f1, .int .i64 x.f3, .bool x.f4] := by
  obtain ⟨_, _, rfl, rfl, ⟨_, _, rfl, rfl, ⟨_, _, rfl, s2, ⟨_, _, rfl, rfl, rfl⟩⟩⟩⟩ := h
  obtain rfl := k41_open s2
  exact rfl
theorem k175_mk (w : World) (x : S175)  : k175.K w x [.int .i64 x.f0, .int .i64 x.f1, .int .i64 x.f2.f0, .int .i64 x.f2.f1, .int .i64 x.f3, .bool x.f4] := ⟨[.int .i64 x.f0], [.int .i64 x.f1, .int .i64 x.f2.f0, .int .i64 x.f2.f1, .int .i64 x.f3, .bool x.f4], rfl, rfl, ⟨[.int .i64 x.f1], [.int .i64 x.f2.f0, .int .i64 x.f2.f1, .int .i64 x.f3, .bool x.f4], rfl, rfl, ⟨[.int .i64 x.f2.f0, .int .i64 x.f2.f1], [.int .i64 x.f3, .bool x.f4], rfl, (k41_mk w x.f2 ), ⟨[.int .i64 x.f3], [.bool x.f4], rfl, rfl, rfl⟩⟩⟩⟩
def rd_T175 (xs : List S175) (i : Int) : S175 := xs.getD i.toNat z175
theorem at_T175 {w : World} {A : Option Addr} {n : Nat} {xs : List S175} (h : Kd.C k175 w A n xs) (i : Int) (h0 : 0 ≤ i) (h1 : i < n) : ∃ ad , A = some ad ∧ w.cell? (ad.add (i.toNat * 6)) = some (.int .i64 (rd_T175 xs i).f0) ∧ w.cell? ⟨(ad.add (i.toNat * 6)).block, (ad.add (i.toNat * 6)).off + 1, none⟩ = some (.int .i64 (rd_T175 xs i).f1) ∧ w.cell? ⟨(ad.add (i.toNat * 6)).block, (ad.add (i.toNat * 6)).off + 2, none⟩ = some (.int .i64 (rd_T175 xs i).f2.f0) ∧ w.cell? ⟨(ad.add (i.toNat * 6)).block, (ad.add (i.toNat * 6)).off + 3, none⟩ = some (.int .i64 (rd_T175 xs i).f2.f1) ∧ w.cell? ⟨(ad.add (i.toNat * 6)).block, (ad.add (i.toNat * 6)).off + 4, none⟩ = some (.int .i64 (rd_T175 xs i).f3) ∧ w.cell? ⟨(ad.add (i.toNat * 6)).block, (ad.add (i.toNat * 6)).off + 5, none⟩ = some (.bool (rd_T175 xs i).f4) := by
  obtain ⟨ad, c, e, _, hK, hc0⟩ := Kd.C_get h z175 i h0 h1
  have hc : ∀ j u, c[j]? = some u → w.cell? (ad.add (i.toNat * 6 + j)) = some u := hc0
  obtain rfl := k175_open hK
  exact ⟨ad, e, hc 0 _ rfl, by rw [← add_field _ _ 1 (by omega)]; exact hc 1 _ rfl, by rw [← add_field _ _ 2 (by omega)]; exact hc 2 _ rfl, by rw [← add_field _ _ 3 (by omega)]; exact hc 3 _ rfl, by rw [← add_field _ _ 4 (by omega)]; exact hc 4 _ rfl, by rw [← add_field _ _ 5 (by omega)]; exact hc 5 _ rfl⟩
structure S70 where
  f0 : Int
  f1 : Int
def z70 : S70 := ⟨(0 : Int), (0 : Int)⟩
def k70 : Kd S70 := Kd.iso (Kd.pair (Kd.int .i64) (Kd.int .i64)) (fun x : S70 => (x.f0, x.f1))
theorem k70_open {w : World} {x : S70} {cs : List Value} (h : k70.K w x cs) : cs = [.int .i64 x.f0, .int .i64 x.f1] := by
  obtain ⟨_, _, rfl, rfl, rfl⟩ := h
  exact rfl
theorem k70_mk (w : World) (x : S70)  : k70.K w x [.int .i64 x.f0, .int .i64 x.f1] := ⟨[.int .i64 x.f0], [.int .i64 x.f1], rfl, rfl, rfl⟩
def rd_T70 (xs : List S70) (i : Int) : S70 := xs.getD i.toNat z70
theorem at_T70 {w : World} {A : Option Addr} {n : Nat} {xs : List S70} (h : Kd.C k70 w A n xs) (i : Int) (h0 : 0 ≤ i) (h1 : i < n) : ∃ ad , A = some ad ∧ w.cell? (ad.add (i.toNat * 2)) = some (.int .i64 (rd_T70 xs i).f0) ∧ w.cell? ⟨(ad.add (i.toNat * 2)).block, (ad.add (i.toNat * 2)).off + 1, none⟩ = some (.int .i64 (rd_T70 xs i).f1) := by
  obtain ⟨ad, c, e, _, hK, hc0⟩ := Kd.C_get h z70 i h0 h1
  have hc : ∀ j u, c[j]? = some u → w.cell? (ad.add (i.toNat * 2 + j)) = some u := hc0
  obtain rfl := k70_open hK
  exact ⟨ad, e, hc 0 _ rfl, by rw [← add_field _ _ 1 (by omega)]; exact hc 1 _ rfl⟩
end Go.Proofs.Ytgmglpnoppcnkaa.PR
end
section
namespace Go.Proofs.Ytgmglpnoppcnkaa.PR
open Go.RowKit Go.Proofs.YtgmglpnoppcnkaaW.PrintWords Go.Proofs.YtgmglpnoppcnkaaW.PrintLast Go.Proofs.YtgmglpnoppcnkaaW.PrintMore
attribute [local go_sem] max2_int min2_int max_two min_two max_three min_three max_four min_four   -- for this text's walks alone
set_option linter.unusedVariables false
set_option linter.unusedSimpArgs false
def tidewallref08_within.f (a0 : Int) (a1 : Int) (a2 : Int) : Option (Bool) := if a0 ≥ a1 then (some (decide (a0 ≤ a2))) else (some false)
set_option maxHeartbeats 8000000 in
set_option maxRecDepth 100000 in
theorem tidewallref08_within.calls (a0 : Int) (a1 : Int) (a2 : Int) (r : Bool) (w : World) (h : tidewallref08_within.f a0 a1 a2 = some r) :
    Calls Try.prog 81 #[.int .i64 a0, .int .i64 a1, .int .i64 a2] w fun e w' => e = .returned (.bool r) ∧ Drawn0 w w' := by
  have H : (if a0 ≥ a1 then (some (decide (a0 ≤ a2))) else (some false)) = some r := h
  clear h
  by_cases c4 : a0 ≥ a1
  · rw [if_pos c4] at H
    have c4b0 : decide (a1 ≤ a0) = true := decide_eq_true c4
    clear c4
    obtain rfl := Option.some.inj H
    go_enter Try.func81, Try.ntmps81
    go_wp2
    go_ret
    exact ⟨by first | rfl | (simp; done) | (simp [*]; done), by repeat (first | exact Drawn0.refl _ | apply Drawn0.step)⟩
  · rw [if_neg c4] at H
    have c4b0 : decide (a1 ≤ a0) = false := decide_eq_false c4
    clear c4
    obtain rfl := Option.some.inj H
    go_enter Try.func81, Try.ntmps81
    go_wp2
    go_ret
    exact ⟨by first | rfl | (simp; done) | (simp [*]; done), by repeat (first | exact Drawn0.refl _ | apply Drawn0.step)⟩
def tidewallref08_span.f (a0_0 : Int) (a0_1 : Int) : Option (Bool) := if a0_0 ≤ a0_1 then (if a0_0 ≥ 0 then (some (decide (a0_1 ≤ 1000000000))) else (some false)) else (some false)
set_option maxHeartbeats 8000000 in
set_option maxRecDepth 100000 in
theorem tidewallref08_span.calls (a0_0 : Int) (a0_1 : Int) (r : Bool) (w : World) (h : tidewallref08_span.f a0_0 a0_1 = some r) :
    Calls Try.prog 103 #[.agg #[.int .i64 a0_0, .int .i64 a0_1]] w fun e w' => e = .returned (.bool r) ∧ Below w.heap.size w w' := by
  have hu41 := Try.underlying41
  have HB := Aside0.mk (Below.refl w.heap.size w)
  have H : (if a0_0 ≤ a0_1 then (if a0_0 ≥ 0 then (some (decide (a0_1 ≤ 1000000000))) else (some false)) else (some false)) = some r := h
  clear h
  by_cases c2 : a0_0 ≤ a0_1
  · rw [if_pos c2] at H
    have c2b0 : decide (a0_0 ≤ a0_1) = true := decide_eq_true c2
    clear c2
    by_cases c3 : a0_0 ≥ 0
    · rw [if_pos c3] at H
      have c3b0 : decide (0 ≤ a0_0) = true := decide_eq_true c3
      clear c3
      obtain rfl := Option.some.inj H
      go_enter Try.func103, Try.ntmps103
      go_wp2_with (first | ((with_reducible refine gate_dst (N := 1) rfl ?_); refine box_event ?hg (N := 1) ?hd (cs := #[.int .i64 a0_0, .int .i64 a0_1]) (t := 41) ?hr ?_; (case hd => rfl); (case hg => rfl); (case hr => first | (go_simp; done) | (go_simp; rfl)); intro gb101 hg w4 hbox hb; have n0_ := Aside0.mk (below_step (by repeat (first | (with_reducible first | exact HB.out | apply below_alloc | apply pw_below_drewN | apply below_drew1) | exact HB.out)) hb); have n1_ := Aside0.mk (hbox); have n2_ := Aside0.mk ((by rw [hg]; exact (below_size (by repeat (first | (with_reducible first | exact HB.out | apply below_alloc | apply pw_below_drewN | apply below_drew1) | exact HB.out))) : w.heap.size ≤ gb101)); have n3_ := Aside0.mk ((by rw [hg]; exact (below_size (by repeat (first | (with_reducible first | exact HB.out | apply below_alloc | apply pw_below_drewN | apply below_drew1) | exact HB.out))) : w.heap.size ≤ gb101)); clear HB; have HB := n0_; have BK101 := n1_; have GW101 := n2_; have GE101 := n3_; clear n0_ n1_ n2_ n3_; clear hb hbox hg; have hcz5_0 : w4.cell? ⟨gb101, 0, none⟩ = some (.int .i64 a0_0) := (blk_cell BK101.out 0).trans rfl; have hcz5_1 : w4.cell? ⟨gb101, 1, none⟩ = some (.int .i64 a0_1) := (blk_cell BK101.out 1).trans rfl; have hfz5_0 := blk_frozen BK101.out 0; have hfz5_1 := blk_frozen BK101.out 1))
      go_ret
      exact ⟨by first | rfl | (simp [errW_none, errW_some] <;> rfl) | (simp [*, errW_none, errW_some] <;> rfl), by repeat (first | (with_reducible first | exact HB.out | apply below_alloc | apply pw_below_drewN | apply below_drew1 | refine below_set ?_ GE101.out) | exact HB.out)⟩
    · rw [if_neg c3] at H
      have c3b0 : decide (0 ≤ a0_0) = false := decide_eq_false c3
      clear c3
      obtain rfl := Option.some.inj H
      go_enter Try.func103, Try.ntmps103
      go_wp2_with (first | ((with_reducible refine gate_dst (N := 1) rfl ?_); refine box_event ?hg (N := 1) ?hd (cs := #[.int .i64 a0_0, .int .i64 a0_1]) (t := 41) ?hr ?_; (case hd => rfl); (case hg => rfl); (case hr => first | (go_simp; done) | (go_simp; rfl)); intro gb101 hg w6 hbox hb; have n0_ := Aside0.mk (below_step (by repeat (first | (with_reducible first | exact HB.out | apply below_alloc | apply pw_below_drewN | apply below_drew1) | exact HB.out)) hb); have n1_ := Aside0.mk (hbox); have n2_ := Aside0.mk ((by rw [hg]; exact (below_size (by repeat (first | (with_reducible first | exact HB.out | apply below_alloc | apply pw_below_drewN | apply below_drew1) | exact HB.out))) : w.heap.size ≤ gb101)); have n3_ := Aside0.mk ((by rw [hg]; exact (below_size (by repeat (first | (with_reducible first | exact HB.out | apply below_alloc | apply pw_below_drewN | apply below_drew1) | exact HB.out))) : w.heap.size ≤ gb101)); clear HB; have HB := n0_; have BK101 := n1_; have GW101 := n2_; have GE101 := n3_; clear n0_ n1_ n2_ n3_; clear hb hbox hg; have hcz7_0 : w6.cell? ⟨gb101, 0, none⟩ = some (.int .i64 a0_0) := (blk_cell BK101.out 0).trans rfl; have hcz7_1 : w6.cell? ⟨gb101, 1, none⟩ = some (.int .i64 a0_1) := (blk_cell BK101.out 1).trans rfl; have hfz7_0 := blk_frozen BK101.out 0; have hfz7_1 := blk_frozen BK101.out 1))
      go_ret
      exact ⟨by first | rfl | (simp [errW_none, errW_some] <;> rfl) | (simp [*, errW_none, errW_some] <;> rfl), by repeat (first | (with_reducible first | exact HB.out | apply below_alloc | apply pw_below_drewN | apply below_drew1 | refine below_set ?_ GE101.out) | exact HB.out)⟩
  · rw [if_neg c2] at H
    have c2b0 : decide (a0_0 ≤ a0_1) = false := decide_eq_false c2
    clear c2
    obtain rfl := Option.some.inj H
    go_enter Try.func103, Try.ntmps103
    go_wp2_with (first | ((with_reducible refine gate_dst (N := 1) rfl ?_); refine box_event ?hg (N := 1) ?hd (cs := #[.int .i64 a0_0, .int .i64 a0_1]) (t := 41) ?hr ?_; (case hd => rfl); (case hg => rfl); (case hr => first | (go_simp; done) | (go_simp; rfl)); intro gb101 hg w8 hbox hb; have n0_ := Aside0.mk (below_step (by repeat (first | (with_reducible first | exact HB.out | apply below_alloc | apply pw_below_drewN | apply below_drew1) | exact HB.out)) hb); have n1_ := Aside0.mk (hbox); have n2_ := Aside0.mk ((by rw [hg]; exact (below_size (by repeat (first | (with_reducible first | exact HB.out | apply below_alloc | apply pw_below_drewN | apply below_drew1) | exact HB.out))) : w.heap.size ≤ gb101)); have n3_ := Aside0.mk ((by rw [hg]; exact (below_size (by repeat (first | (with_reducible first | exact HB.out | apply below_alloc | apply pw_below_drewN | apply below_drew1) | exact HB.out))) : w.heap.size ≤ gb101)); clear HB; have HB := n0_; have BK101 := n1_; have GW101 := n2_; have GE101 := n3_; clear n0_ n1_ n2_ n3_; clear hb hbox hg; have hcz9_0 : w8.cell? ⟨gb101, 0, none⟩ = some (.int .i64 a0_0) := (blk_cell BK101.out 0).trans rfl; have hcz9_1 : w8.cell? ⟨gb101, 1, none⟩ = some (.int .i64 a0_1) := (blk_cell BK101.out 1).trans rfl; have hfz9_0 := blk_frozen BK101.out 0; have hfz9_1 := blk_frozen BK101.out 1))
    go_ret
    exact ⟨by first | rfl | (simp [errW_none, errW_some] <;> rfl) | (simp [*, errW_none, errW_some] <;> rfl), by repeat (first | (with_reducible first | exact HB.out | apply below_alloc | apply pw_below_drewN | apply below_drew1 | refine below_set ?_ GE101.out) | exact HB.out)⟩
mutual
def tidewallref08_Check.j0 : Nat → Bool → Int → Int → List (S175) → Option (Int)
  | 0, _, _, _, _ => none
  | k + 1, x14, x103000, x103001, x103002 => if x14 = true then (some 3) else (if (x103002.length : Int) > 256 then (some 9) else (tidewallref08_Check.l0 k 0 x103000 x103001 x103002))
def tidewallref08_Check.l0 : Nat → Int → Int → Int → List (S175) → Option (Int)
  | 0, _, _, _, _ => none
  | k + 1, x3, x103000, x103001, x103002 => if x3 < (x103002.length : Int) then (if 0 ≤ x3 then ((tidewallref08_within.f ((rd_T175 x103002 x3).f0) 0 (wrap64 (x103000 - 1))).bind fun t107 => (if t107 = true then ((tidewallref08_within.f ((rd_T175 x103002 x3).f1) 0 (wrap64 (x103000 - 1))).bind fun t108 => (if t108 = true then ((tidewallref08_within.f ((rd_T175 x103002 x3).f3) (-1) (wrap64 (x103001 - 1))).bind fun t109 => (tidewallref08_Check.j2 k x3 (!t109) x103000 x103001 x103002 ((rd_T175 x103002 x3).f0) ((rd_T175 x103002 x3).f1) ((rd_T175 x103002 x3).f2.f0) ((rd_T175 x103002 x3).f2.f1) ((rd_T175 x103002 x3).f3) ((rd_T175 x103002 x3).f4))) else (tidewallref08_Check.j2 k x3 true x103000 x103001 x103002 ((rd_T175 x103002 x3).f0) ((rd_T175 x103002 x3).f1) ((rd_T175 x103002 x3).f2.f0) ((rd_T175 x103002 x3).f2.f1) ((rd_T175 x103002 x3).f3) ((rd_T175 x103002 x3).f4)))) else (tidewallref08_Check.j2 k x3 true x103000 x103001 x103002 ((rd_T175 x103002 x3).f0) ((rd_T175 x103002 x3).f1) ((rd_T175 x103002 x3).f2.f0) ((rd_T175 x103002 x3).f2.f1) ((rd_T175 x103002 x3).f3) ((rd_T175 x103002 x3).f4)))) else (none)) else (some 0)
def tidewallref08_Check.j2 : Nat → Int → Bool → Int → Int → List (S175) → Int → Int → Int → Int → Int → Bool → Option (Int)
  | 0, _, _, _, _, _, _, _, _, _, _, _ => none
  | k + 1, x3, x55, x103000, x103001, x103002, x107000, x107001, x107002, x107003, x107004, x107005 => if x55 = true then (some 4) else (if x107000 = x107001 then (some 2) else ((tidewallref08_span.f x107002 x107003).bind fun t110 => (if t110 = true then (tidewallref08_Check.l0 k (wrap64 (x3 + 1)) x103000 x103001 x103002) else (some 3))))
end
def tidewallref08_Check.f (k : Nat) (a0_0 : Int) (a0_1 : Int) (l0_2 : List (S175)) : Option (Int) := (tidewallref08_within.f a0_0 1 64).bind fun t103 => (if t103 = true then ((tidewallref08_within.f a0_1 0 20).bind fun t104 => (tidewallref08_Check.j0 k (!t104) a0_0 a0_1 l0_2)) else (tidewallref08_Check.j0 k true a0_0 a0_1 l0_2))
theorem tidewallref08_Check.mono_l : ∀ k, (∀ y0 y1 y2 y3, LeO (tidewallref08_Check.j0 k y0 y1 y2 y3) (tidewallref08_Check.j0 (k + 1) y0 y1 y2 y3)) ∧ (∀ y0 y1 y2 y3, LeO (tidewallref08_Check.l0 k y0 y1 y2 y3) (tidewallref08_Check.l0 (k + 1) y0 y1 y2 y3)) ∧ (∀ y0 y1 y2 y3 y4 y5 y6 y7 y8 y9 y10, LeO (tidewallref08_Check.j2 k y0 y1 y2 y3 y4 y5 y6 y7 y8 y9 y10) (tidewallref08_Check.j2 (k + 1) y0 y1 y2 y3 y4 y5 y6 y7 y8 y9 y10))
  | 0 => ⟨fun _ _ _ _ r h => by simp [tidewallref08_Check.j0] at h, fun _ _ _ _ r h => by simp [tidewallref08_Check.l0] at h, fun _ _ _ _ _ _ _ _ _ _ _ r h => by simp [tidewallref08_Check.j2] at h⟩
  | k + 1 => by
    obtain ⟨ih0, ih1, ih2⟩ := tidewallref08_Check.mono_l k
    refine ⟨?_, ?_, ?_⟩
    · intro y0 y1 y2 y3
      unfold tidewallref08_Check.j0
      repeat' first
      | (with_reducible exact ih0 _ _ _ _)
      | (with_reducible exact ih1 _ _ _ _)
      | (with_reducible exact ih2 _ _ _ _ _ _ _ _ _ _ _)
      | (with_reducible exact LeO.refl _)
      | (with_reducible exact LeO.none _)
      | (with_reducible refine LeO.ite ?_ ?_)
      | (with_reducible refine LeO.bind ?_ (fun _ => ?_))
      | exact ih0 _ _ _ _
      | exact ih1 _ _ _ _
      | exact ih2 _ _ _ _ _ _ _ _ _ _ _
      | exact LeO.none _
      | refine LeO.ite ?_ ?_
      | refine LeO.bind ?_ (fun _ => ?_)
    · intro y0 y1 y2 y3
      unfold tidewallref08_Check.l0
      repeat' first
      | (with_reducible exact ih0 _ _ _ _)
      | (with_reducible exact ih1 _ _ _ _)
      | (with_reducible exact ih2 _ _ _ _ _ _ _ _ _ _ _)
      | (with_reducible exact LeO.refl _)
      | (with_reducible exact LeO.none _)
      | (with_reducible refine LeO.ite ?_ ?_)
      | (with_reducible refine LeO.bind ?_ (fun _ => ?_))
      | exact ih0 _ _ _ _
      | exact ih1 _ _ _ _
      | exact ih2 _ _ _ _ _ _ _ _ _ _ _
      | exact LeO.none _
      | refine LeO.ite ?_ ?_
      | refine LeO.bind ?_ (fun _ => ?_)
    · intro y0 y1 y2 y3 y4 y5 y6 y7 y8 y9 y10
      unfold tidewallref08_Check.j2
      repeat' first
      | (with_reducible exact ih0 _ _ _ _)
      | (with_reducible exact ih1 _ _ _ _)
      | (with_reducible exact ih2 _ _ _ _ _ _ _ _ _ _ _)
      | (with_reducible exact LeO.refl _)
      | (with_reducible exact LeO.none _)
      | (with_reducible refine LeO.ite ?_ ?_)
      | (with_reducible refine LeO.bind ?_ (fun _ => ?_))
      | exact ih0 _ _ _ _
      | exact ih1 _ _ _ _
      | exact ih2 _ _ _ _ _ _ _ _ _ _ _
      | exact LeO.none _
      | refine LeO.ite ?_ ?_
      | refine LeO.bind ?_ (fun _ => ?_)
theorem tidewallref08_Check.mono : ∀ a0 a1 a2 k, LeO (tidewallref08_Check.f k a0 a1 a2) (tidewallref08_Check.f (k + 1) a0 a1 a2) := by
  intro a0 a1 a2 k
  obtain ⟨ih0, ih1, ih2⟩ := tidewallref08_Check.mono_l k
  unfold tidewallref08_Check.f
  repeat' first
      | (with_reducible exact ih0 _ _ _ _)
      | (with_reducible exact ih1 _ _ _ _)
      | (with_reducible exact ih2 _ _ _ _ _ _ _ _ _ _ _)
      | (with_reducible exact LeO.refl _)
      | (with_reducible exact LeO.none _)
      | (with_reducible refine LeO.ite ?_ ?_)
      | (with_reducible refine LeO.bind ?_ (fun _ => ?_))
      | exact ih0 _ _ _ _
      | exact ih1 _ _ _ _
      | exact ih2 _ _ _ _ _ _ _ _ _ _ _
      | exact LeO.none _
      | refine LeO.ite ?_ ?_
      | refine LeO.bind ?_ (fun _ => ?_)
set_option maxHeartbeats 8000000 in
set_option maxRecDepth 100000 in
theorem tidewallref08_Check.calls (k : Nat) (a0_0 : Int) (a0_1 : Int) (A0_2 : Option Addr) (c0_2 : Nat) (l0_2 : List (S175)) (r : Int) (w : World) (hr0_2 : Kd.C k175 w A0_2 l0_2.length l0_2) (hc0_2 : l0_2.length ≤ c0_2) (h : tidewallref08_Check.f k a0_0 a0_1 l0_2 = some r) :
    Calls Try.prog 46 #[.agg #[.int .i64 a0_0, .int .i64 a0_1, .slice A0_2 l0_2.length c0_2]] w fun e w' => e = .returned (.int .i64 r) ∧ Below w.heap.size w w' := by
  have hu77 := Try.underlying77
  have hu175 := Try.underlying175
  have hu41 := Try.underlying41
  have HR0_2 := Aside0.mk hr0_2
  have HC0_2 := Aside0.mk hc0_2
  clear hr0_2 hc0_2
  have HB := Aside0.mk (Below.refl w.heap.size w)
  have H : ((tidewallref08_within.f a0_0 1 64).bind fun t103 => (if t103 = true then ((tidewallref08_within.f a0_1 0 20).bind fun t104 => (tidewallref08_Check.j0 k (!t104) a0_0 a0_1 l0_2)) else (tidewallref08_Check.j0 k true a0_0 a0_1 l0_2))) = some r := h
  clear h
  have HC2 := Aside0.mk H
  clear H
  go_enter Try.func46, Try.ntmps46
  go_upto_region 1 with (first | ((with_reducible refine gate_dst (N := 1) rfl ?_); refine box_event ?hg (N := 1) ?hd (cs := #[.int .i64 a0_0, .int .i64 a0_1, .slice A0_2 l0_2.length c0_2]) (t := 77) ?hr ?_; (case hd => rfl); (case hg => rfl); (case hr => first | (go_simp; done) | (go_simp; rfl)); intro gb102 hg w3 hbox hb; have n0_ := Aside0.mk (below_step (by repeat (first | (with_reducible first | exact HB.out | apply below_alloc | apply pw_below_drewN | apply below_drew1) | exact HB.out)) hb); have n1_ := Aside0.mk (hbox); have n2_ := Aside0.mk ((by rw [hg]; exact (below_size (by repeat (first | (with_reducible first | exact HB.out | apply below_alloc | apply pw_below_drewN | apply below_drew1) | exact HB.out))) : w.heap.size ≤ gb102)); have n3_ := Aside0.mk ((by rw [hg]; exact (below_size (by repeat (first | (with_reducible first | exact HB.out | apply below_alloc | apply pw_below_drewN | apply below_drew1) | exact HB.out))) : w.heap.size ≤ gb102)); clear HB; have HB := n0_; have BK102 := n1_; have GW102 := n2_; have GE102 := n3_; clear n0_ n1_ n2_ n3_; clear hb hbox hg))
  (try simp only [Act.put, List.setIfInBounds_toArray, List.set_cons_zero, List.set_cons_succ])
  go_cut [14] (fun v14 wc => ∃ (kq : Nat) (x14_1 : Bool), v14 = .bool x14_1 ∧ Aside0 (tidewallref08_Check.j0 kq x14_1 a0_0 a0_1 l0_2 = some r) ∧ Aside0 (kq ≤ k) ∧ Aside0 (wc.heap[gb102]? = some (.cells #[.int .i64 a0_0, .int .i64 a0_1, (.slice A0_2 l0_2.length c0_2)] 77 (0, 0))) ∧ Aside0 (Below w.heap.size w wc))
  case first =>
    have H := HC2.out
    clear HC2
    replace H := Option.bind_eq_some_iff.mp H
    obtain ⟨t103, A40, H⟩ := H
    replace H : (if t103 = true then ((tidewallref08_within.f a0_1 0 20).bind fun t104 => (tidewallref08_Check.j0 k (!t104) a0_0 a0_1 l0_2)) else (tidewallref08_Check.j0 k true a0_0 a0_1 l0_2)) = some r := H
    have A4 := Aside0.mk A40
    clear A40
    by_cases c5 : t103 = true
    · subst c5
      have H1 : ((tidewallref08_within.f a0_1 0 20).bind fun t104 => (tidewallref08_Check.j0 k (!t104) a0_0 a0_1 l0_2)) = some r := by rw [if_pos rfl] at H; exact H
      clear H
      have H := H1
      clear H1
      replace H := Option.bind_eq_some_iff.mp H
      obtain ⟨t104, A60, H⟩ := H
      replace H : (tidewallref08_Check.j0 k (!t104) a0_0 a0_1 l0_2) = some r := H
      have A6 := Aside0.mk A60
      clear A60
      have H' := Aside0.mk H
      clear H
      have hcz7_0 : w3.cell? ⟨gb102, 0, none⟩ = some (.int .i64 a0_0) := (blk_cell BK102.out 0).trans rfl
      have hcz7_1 : w3.cell? ⟨gb102, 1, none⟩ = some (.int .i64 a0_1) := (blk_cell BK102.out 1).trans rfl
      have hcz7_2 : w3.cell? ⟨gb102, 2, none⟩ = some (.slice A0_2 l0_2.length c0_2) := (blk_cell BK102.out 2).trans rfl
      have hfz7_0 := blk_frozen BK102.out 0
      have hfz7_1 := blk_frozen BK102.out 1
      have hfz7_2 := blk_frozen BK102.out 2
      go_wp2_with (first | ((with_reducible refine gate_callee (f := 81) rfl ?_); refine goesL_ (some 7) rfl rfl Try.func81 (by kernel_rfl) rfl #[.int .i64 a0_0, .int .i64 1, .int .i64 64] rfl (by (try simp only [List.map_toArray, List.map_cons, List.map_nil]); first | done | rfl | (simp only [List.length_drop, List.length_take]; rfl)) ?_; (with_reducible refine (tidewallref08_within.calls a0_0 1 64 true _ A4.out).mono ?_); rintro e w' ⟨rfl, ⟨nd, rfl⟩⟩; refine ⟨_, rfl, ?_⟩) | (go_at_call 81; (with_reducible refine (tidewallref08_within.calls a0_1 0 20 t104 _ A6.out).mono ?_); rintro e w' ⟨rfl, ⟨nd, rfl⟩⟩))
      go_meet
      case rel => exact ⟨_, (!t104), (by first | rfl | (simp; done) | (simp [*]; done)), H', ⟨by first | omega | exact Nat.le_refl _⟩, ⟨by (with_reducible repeat (first | refine blk_drewN ?_ _ | refine blk_drew ?_ | refine blk_alloc ?_ _)); exact BK102.out⟩, ⟨by repeat (first | (with_reducible first | exact HB.out | apply below_alloc | apply pw_below_drewN | apply below_drew1 | refine below_set ?_ GE102.out) | exact HB.out)⟩⟩
    · replace c5 := Bool.eq_false_iff.mpr c5
      subst c5
      have H1 : (tidewallref08_Check.j0 k true a0_0 a0_1 l0_2) = some r := by rw [if_neg (show ¬ (false = true) by decide)] at H; exact H
      clear H
      have H := H1
      clear H1
      have H' := Aside0.mk H
      clear H
      have hcz8_0 : w3.cell? ⟨gb102, 0, none⟩ = some (.int .i64 a0_0) := (blk_cell BK102.out 0).trans rfl
      have hcz8_1 : w3.cell? ⟨gb102, 1, none⟩ = some (.int .i64 a0_1) := (blk_cell BK102.out 1).trans rfl
      have hcz8_2 : w3.cell? ⟨gb102, 2, none⟩ = some (.slice A0_2 l0_2.length c0_2) := (blk_cell BK102.out 2).trans rfl
      have hfz8_0 := blk_frozen BK102.out 0
      have hfz8_1 := blk_frozen BK102.out 1
      have hfz8_2 := blk_frozen BK102.out 2
      go_wp2_with (first | ((with_reducible refine gate_callee (f := 81) rfl ?_); refine goesL_ (some 7) rfl rfl Try.func81 (by kernel_rfl) rfl #[.int .i64 a0_0, .int .i64 1, .int .i64 64] rfl (by (try simp only [List.map_toArray, List.map_cons, List.map_nil]); first | done | rfl | (simp only [List.length_drop, List.length_take]; rfl)) ?_; (with_reducible refine (tidewallref08_within.calls a0_0 1 64 false _ A4.out).mono ?_); rintro e w' ⟨rfl, ⟨nd, rfl⟩⟩; refine ⟨_, rfl, ?_⟩))
      go_meet
      case rel => exact ⟨_, (true), (by first | rfl | (simp; done) | (simp [*]; done)), H', ⟨by first | omega | exact Nat.le_refl _⟩, ⟨by (with_reducible repeat (first | refine blk_drewN ?_ _ | refine blk_drew ?_ | refine blk_alloc ?_ _)); exact BK102.out⟩, ⟨by repeat (first | (with_reducible first | exact HB.out | apply below_alloc | apply pw_below_drewN | apply below_drew1 | refine below_set ?_ GE102.out) | exact HB.out)⟩⟩
  case rest =>
    clear HC2
    try clear p2
    try clear c4
    try clear c5
    try clear c8
    try clear hcz7_0
    try clear hcz7_1
    try clear hcz7_2
    try clear hcz8_0
    try clear hcz8_1
    try clear hcz8_2
    try clear hfz7_0
    try clear hfz7_1
    try clear hfz7_2
    try clear hfz8_0
    try clear hfz8_1
    try clear hfz8_2
    obtain ⟨kq, x14_1, rfl, HA, HJ1, BK102, HB⟩ := hcut
    cases kq with
    | zero => exact absurd HA.out (by simp [tidewallref08_Check.j0])
    | succ kj1 =>
      have H := HA.out
      clear HA
      simp only [tidewallref08_Check.j0] at H
      by_cases c9 : x14_1 = true
      · subst c9
        have H1 : (some 3) = some r := by rw [if_pos rfl] at H; exact H
        clear H
        have H := H1
        clear H1
        obtain rfl := Option.some.inj H
        go_wp2
        go_ret
        exact ⟨by first | rfl | (simp [errW_none, errW_some] <;> rfl) | (simp [*, errW_none, errW_some] <;> rfl), by repeat (first | (with_reducible first | exact HB.out | apply below_alloc | apply pw_below_drewN | apply below_drew1 | refine below_set ?_ GE102.out) | exact HB.out)⟩
      · replace c9 := Bool.eq_false_iff.mpr c9
        subst c9
        have H1 : (if (l0_2.length : Int) > 256 then (some 9) else (tidewallref08_Check.l0 kj1 0 a0_0 a0_1 l0_2)) = some r := by rw [if_neg (show ¬ (false = true) by decide)] at H; exact H
        clear H
        have H := H1
        clear H1
        by_cases c10 : (l0_2.length : Int) > 256
        · rw [if_pos c10] at H
          have c10b0 : decide (256 < (l0_2.length : Int)) = true := decide_eq_true c10
          have c10b1 : decide (256 < l0_2.length) = true := decide_eq_true (by omega)
          clear c10
          obtain rfl := Option.some.inj H
          have hcz11_0 : wc.cell? ⟨gb102, 0, none⟩ = some (.int .i64 a0_0) := (blk_cell BK102.out 0).trans rfl
          have hcz11_1 : wc.cell? ⟨gb102, 1, none⟩ = some (.int .i64 a0_1) := (blk_cell BK102.out 1).trans rfl
          have hcz11_2 : wc.cell? ⟨gb102, 2, none⟩ = some (.slice A0_2 l0_2.length c0_2) := (blk_cell BK102.out 2).trans rfl
          have hfz11_0 := blk_frozen BK102.out 0
          have hfz11_1 := blk_frozen BK102.out 1
          have hfz11_2 := blk_frozen BK102.out 2
          go_wp2
          go_ret
          exact ⟨by first | rfl | (simp [errW_none, errW_some] <;> rfl) | (simp [*, errW_none, errW_some] <;> rfl), by repeat (first | (with_reducible first | exact HB.out | apply below_alloc | apply pw_below_drewN | apply below_drew1 | refine below_set ?_ GE102.out) | exact HB.out)⟩
        · rw [if_neg c10] at H
          have c10b0 : decide (256 < (l0_2.length : Int)) = false := decide_eq_false c10
          have c10b1 : decide (256 < l0_2.length) = false := decide_eq_false (by omega)
          clear c10
          have H' := Aside0.mk H
          clear H
          have hcz12_0 : wc.cell? ⟨gb102, 0, none⟩ = some (.int .i64 a0_0) := (blk_cell BK102.out 0).trans rfl
          have hcz12_1 : wc.cell? ⟨gb102, 1, none⟩ = some (.int .i64 a0_1) := (blk_cell BK102.out 1).trans rfl
          have hcz12_2 : wc.cell? ⟨gb102, 2, none⟩ = some (.slice A0_2 l0_2.length c0_2) := (blk_cell BK102.out 2).trans rfl
          have hfz12_0 := blk_frozen BK102.out 0
          have hfz12_1 := blk_frozen BK102.out 1
          have hfz12_2 := blk_frozen BK102.out 2
          go_wp2
          go_loopg [3] kj1 (fun kq v3 w' => ∃ (x3_2 : Int), v3 = .int .i64 x3_2 ∧ Aside0 (tidewallref08_Check.l0 kq x3_2 a0_0 a0_1 l0_2 = some r) ∧ Aside0 (kq ≤ kj1) ∧ Aside0 (w'.heap[gb102]? = some (.cells #[.int .i64 a0_0, .int .i64 a0_1, (.slice A0_2 l0_2.length c0_2)] 77 (0, 0))) ∧ Aside0 (Below w.heap.size w w'))
          case atStart => exact ⟨(0), (by first | rfl | (simp; done) | (simp [*]; done)), H', ⟨Nat.le_refl _⟩, ⟨by (with_reducible repeat (first | refine blk_drewN ?_ _ | refine blk_drew ?_ | refine blk_alloc ?_ _)); exact BK102.out⟩, ⟨by repeat (first | (with_reducible first | exact HB.out | apply below_alloc | apply pw_below_drewN | apply below_drew1 | refine below_set ?_ GE102.out) | exact HB.out)⟩⟩
          case round =>
            clear H'
            try clear c1
            try clear p2
            try clear c4
            try clear c5
            try clear c8
            try clear c9
            try clear c10
            try clear c10b0
            try clear c10b1
            try clear hcz11_0
            try clear hcz11_1
            try clear hcz11_2
            try clear hcz12_0
            try clear hcz12_1
            try clear hcz12_2
            try clear hcz7_0
            try clear hcz7_1
            try clear hcz7_2
            try clear hcz8_0
            try clear hcz8_1
            try clear hcz8_2
            try clear hfz11_0
            try clear hfz11_1
            try clear hfz11_2
            try clear hfz12_0
            try clear hfz12_1
            try clear hfz12_2
            try clear hfz7_0
            try clear hfz7_1
            try clear hfz7_2
            try clear hfz8_0
            try clear hfz8_1
            try clear hfz8_2
            try clear p2
            obtain ⟨x3_2, rfl, HA, HK2, BK102, HB⟩ := hrel
            cases gk with
            | zero => exact absurd HA.out (by simp [tidewallref08_Check.l0])
            | succ k2 =>
              have H := HA.out
              clear HA
              simp only [tidewallref08_Check.l0] at H
              by_cases c13 : x3_2 < (l0_2.length : Int)
              · rw [if_pos c13] at H
                have c13b0 : decide (x3_2 < (l0_2.length : Int)) = true := decide_eq_true c13
                clear c13
                by_cases c14 : 0 ≤ x3_2
                · rw [if_pos c14] at H
                  have c14b0 : decide (0 ≤ x3_2) = true := decide_eq_true c14
                  clear c14
                  have HC15 := Aside0.mk H
                  clear H
                  have hcz16_0 : wr.cell? ⟨gb102, 0, none⟩ = some (.int .i64 a0_0) := (blk_cell BK102.out 0).trans rfl
                  have hcz16_1 : wr.cell? ⟨gb102, 1, none⟩ = some (.int .i64 a0_1) := (blk_cell BK102.out 1).trans rfl
                  have hcz16_2 : wr.cell? ⟨gb102, 2, none⟩ = some (.slice A0_2 l0_2.length c0_2) := (blk_cell BK102.out 2).trans rfl
                  have hfz16_0 := blk_frozen BK102.out 0
                  have hfz16_1 := blk_frozen BK102.out 1
                  have hfz16_2 := blk_frozen BK102.out 2
                  have p105 : 0 ≤ (x3_2 : Int) := of_decide_eq_true (by first | (with_reducible assumption) | assumption)
                  have q105 : x3_2 < (l0_2.length : Int) := of_decide_eq_true (by first | (with_reducible assumption) | assumption)
                  obtain ⟨ad105, e105, hx105_0, hx105_1, hx105_2, hx105_3, hx105_4, hx105_5⟩ := at_T175 HR0_2.out x3_2 p105 q105
                  cases e105
                  replace hx105_0 := (HB.out.cell (World.block_lt_of_cell? w _ hx105_0)).trans hx105_0
                  replace hx105_1 := (HB.out.cell (World.block_lt_of_cell? w _ hx105_1)).trans hx105_1
                  replace hx105_2 := (HB.out.cell (World.block_lt_of_cell? w _ hx105_2)).trans hx105_2
                  replace hx105_3 := (HB.out.cell (World.block_lt_of_cell? w _ hx105_3)).trans hx105_3
                  replace hx105_4 := (HB.out.cell (World.block_lt_of_cell? w _ hx105_4)).trans hx105_4
                  replace hx105_5 := (HB.out.cell (World.block_lt_of_cell? w _ hx105_5)).trans hx105_5
                  replace p105 := eq_true p105
                  replace q105 := eq_true q105
                  go_upto_region 9 with (first | ((with_reducible refine gate_dst (N := 4) rfl ?_); refine box_event ?hg (N := 4) ?hd (cs := #[.int .i64 0, .int .i64 0, .int .i64 0, .int .i64 0, .int .i64 0, .bool false]) (t := 175) ?hr ?_; (case hd => rfl); (case hg => rfl); (case hr => first | (go_simp; done) | (go_simp; rfl)); intro gb106 hg w17 hbox hb; have n0_ := Aside0.mk (blk_below (g := gb102) (o := .cells #[.int .i64 a0_0, .int .i64 a0_1, .slice (some ad105) l0_2.length c0_2] 77 (0, 0)) (by (with_reducible repeat (first | refine blk_drewN ?_ _ | refine blk_drew ?_ | refine blk_alloc ?_ _)); exact BK102.out) hb); have n1_ := Aside0.mk (below_step (by repeat (first | (with_reducible first | exact HB.out | apply below_alloc | apply pw_below_drewN | apply below_drew1 | refine below_set ?_ GE102.out) | exact HB.out)) hb); have n2_ := Aside0.mk (hbox); have n3_ := Aside0.mk ((by rw [hg]; exact (below_size (by repeat (first | (with_reducible first | exact HB.out | apply below_alloc | apply pw_below_drewN | apply below_drew1 | refine below_set ?_ GE102.out) | exact HB.out))) : w.heap.size ≤ gb106)); have n4_ := Aside0.mk ((by rw [hg]; exact (below_size (by repeat (first | (with_reducible first | exact HB.out | apply below_alloc | apply pw_below_drewN | apply below_drew1 | refine below_set ?_ GE102.out) | exact HB.out))) : w.heap.size ≤ gb106)); have n5_ := Aside0.mk ((by rw [hg]; exact Nat.ne_of_lt (blk_lt (g := gb102) (o := .cells #[.int .i64 a0_0, .int .i64 a0_1, .slice (some ad105) l0_2.length c0_2] 77 (0, 0)) (by (with_reducible repeat (first | refine blk_drewN ?_ _ | refine blk_drew ?_ | refine blk_alloc ?_ _)); exact BK102.out)) : gb102 ≠ gb106)); have n6_ := Aside0.mk ((by rw [hg]; exact Nat.ne_of_gt (blk_lt (g := gb102) (o := .cells #[.int .i64 a0_0, .int .i64 a0_1, .slice (some ad105) l0_2.length c0_2] 77 (0, 0)) (by (with_reducible repeat (first | refine blk_drewN ?_ _ | refine blk_drew ?_ | refine blk_alloc ?_ _)); exact BK102.out)) : gb106 ≠ gb102)); clear BK102; clear HB; have BK102 := n0_; have HB := n1_; have BK106 := n2_; have GW106 := n3_; have GE106 := n4_; have NB102_106 := n5_; have NB106_102 := n6_; clear n0_ n1_ n2_ n3_ n4_ n5_ n6_; clear hb hbox hg; have hnb18 := NB106_102.out; have hnc18 := NB102_106.out; have hcz19_0 : w17.cell? ⟨gb106, 0, none⟩ = some (.int .i64 0) := (blk_cell BK106.out 0).trans rfl; have hcz19_1 : w17.cell? ⟨gb106, 1, none⟩ = some (.int .i64 0) := (blk_cell BK106.out 1).trans rfl; have hcz19_2 : w17.cell? ⟨gb106, 2, none⟩ = some (.int .i64 0) := (blk_cell BK106.out 2).trans rfl; have hcz19_3 : w17.cell? ⟨gb106, 3, none⟩ = some (.int .i64 0) := (blk_cell BK106.out 3).trans rfl; have hcz19_4 : w17.cell? ⟨gb106, 4, none⟩ = some (.int .i64 0) := (blk_cell BK106.out 4).trans rfl; have hcz19_5 : w17.cell? ⟨gb106, 5, none⟩ = some (.bool false) := (blk_cell BK106.out 5).trans rfl; have hfz19_0 := blk_frozen BK106.out 0; have hfz19_1 := blk_frozen BK106.out 1; have hfz19_2 := blk_frozen BK106.out 2; have hfz19_3 := blk_frozen BK106.out 3; have hfz19_4 := blk_frozen BK106.out 4; have hfz19_5 := blk_frozen BK106.out 5))
                  (try simp only [Act.put, List.setIfInBounds_toArray, List.set_cons_zero, List.set_cons_succ])
                  go_cut [55] (fun v55 wc => ∃ (kq : Nat) (x55_14 : Bool), v55 = .bool x55_14 ∧ Aside0 (tidewallref08_Check.j2 kq x3_2 x55_14 a0_0 a0_1 l0_2 ((rd_T175 l0_2 x3_2).f0) ((rd_T175 l0_2 x3_2).f1) ((rd_T175 l0_2 x3_2).f2.f0) ((rd_T175 l0_2 x3_2).f2.f1) ((rd_T175 l0_2 x3_2).f3) ((rd_T175 l0_2 x3_2).f4) = some r) ∧ Aside0 (kq ≤ k2) ∧ Aside0 (wc.heap[gb102]? = some (.cells #[.int .i64 a0_0, .int .i64 a0_1, (.slice (some ad105) l0_2.length c0_2)] 77 (0, 0))) ∧ Aside0 (wc.heap[gb106]? = some (.cells #[.int .i64 ((rd_T175 l0_2 x3_2).f0), .int .i64 ((rd_T175 l0_2 x3_2).f1), .int .i64 ((rd_T175 l0_2 x3_2).f2.f0), .int .i64 ((rd_T175 l0_2 x3_2).f2.f1), .int .i64 ((rd_T175 l0_2 x3_2).f3), .bool ((rd_T175 l0_2 x3_2).f4)] 175 (0, 0))) ∧ Aside0 (Below w.heap.size w wc))
                  case first =>
                    have H := HC15.out
                    clear HC15
                    replace H := Option.bind_eq_some_iff.mp H
                    obtain ⟨t107, A200, H⟩ := H
                    replace H : (if t107 = true then ((tidewallref08_within.f ((rd_T175 l0_2 x3_2).f1) 0 (wrap64 (a0_0 - 1))).bind fun t108 => (if t108 = true then ((tidewallref08_within.f ((rd_T175 l0_2 x3_2).f3) (-1) (wrap64 (a0_1 - 1))).bind fun t109 => (tidewallref08_Check.j2 k2 x3_2 (!t109) a0_0 a0_1 l0_2 ((rd_T175 l0_2 x3_2).f0) ((rd_T175 l0_2 x3_2).f1) ((rd_T175 l0_2 x3_2).f2.f0) ((rd_T175 l0_2 x3_2).f2.f1) ((rd_T175 l0_2 x3_2).f3) ((rd_T175 l0_2 x3_2).f4))) else (tidewallref08_Check.j2 k2 x3_2 true a0_0 a0_1 l0_2 ((rd_T175 l0_2 x3_2).f0) ((rd_T175 l0_2 x3_2).f1) ((rd_T175 l0_2 x3_2).f2.f0) ((rd_T175 l0_2 x3_2).f2.f1) ((rd_T175 l0_2 x3_2).f3) ((rd_T175 l0_2 x3_2).f4)))) else (tidewallref08_Check.j2 k2 x3_2 true a0_0 a0_1 l0_2 ((rd_T175 l0_2 x3_2).f0) ((rd_T175 l0_2 x3_2).f1) ((rd_T175 l0_2 x3_2).f2.f0) ((rd_T175 l0_2 x3_2).f2.f1) ((rd_T175 l0_2 x3_2).f3) ((rd_T175 l0_2 x3_2).f4))) = some r := H
                    have A20 := Aside0.mk A200
                    clear A200
                    by_cases c21 : t107 = true
                    · subst c21
                      have H1 : ((tidewallref08_within.f ((rd_T175 l0_2 x3_2).f1) 0 (wrap64 (a0_0 - 1))).bind fun t108 => (if t108 = true then ((tidewallref08_within.f ((rd_T175 l0_2 x3_2).f3) (-1) (wrap64 (a0_1 - 1))).bind fun t109 => (tidewallref08_Check.j2 k2 x3_2 (!t109) a0_0 a0_1 l0_2 ((rd_T175 l0_2 x3_2).f0) ((rd_T175 l0_2 x3_2).f1) ((rd_T175 l0_2 x3_2).f2.f0) ((rd_T175 l0_2 x3_2).f2.f1) ((rd_T175 l0_2 x3_2).f3) ((rd_T175 l0_2 x3_2).f4))) else (tidewallref08_Check.j2 k2 x3_2 true a0_0 a0_1 l0_2 ((rd_T175 l0_2 x3_2).f0) ((rd_T175 l0_2 x3_2).f1) ((rd_T175 l0_2 x3_2).f2.f0) ((rd_T175 l0_2 x3_2).f2.f1) ((rd_T175 l0_2 x3_2).f3) ((rd_T175 l0_2 x3_2).f4)))) = some r := by rw [if_pos rfl] at H; exact H
                      clear H
                      have H := H1
                      clear H1
                      replace H := Option.bind_eq_some_iff.mp H
                      obtain ⟨t108, A220, H⟩ := H
                      replace H : (if t108 = true then ((tidewallref08_within.f ((rd_T175 l0_2 x3_2).f3) (-1) (wrap64 (a0_1 - 1))).bind fun t109 => (tidewallref08_Check.j2 k2 x3_2 (!t109) a0_0 a0_1 l0_2 ((rd_T175 l0_2 x3_2).f0) ((rd_T175 l0_2 x3_2).f1) ((rd_T175 l0_2 x3_2).f2.f0) ((rd_T175 l0_2 x3_2).f2.f1) ((rd_T175 l0_2 x3_2).f3) ((rd_T175 l0_2 x3_2).f4))) else (tidewallref08_Check.j2 k2 x3_2 true a0_0 a0_1 l0_2 ((rd_T175 l0_2 x3_2).f0) ((rd_T175 l0_2 x3_2).f1) ((rd_T175 l0_2 x3_2).f2.f0) ((rd_T175 l0_2 x3_2).f2.f1) ((rd_T175 l0_2 x3_2).f3) ((rd_T175 l0_2 x3_2).f4))) = some r := H
                      have A22 := Aside0.mk A220
                      clear A220
                      by_cases c23 : t108 = true
                      · subst c23
                        have H1 : ((tidewallref08_within.f ((rd_T175 l0_2 x3_2).f3) (-1) (wrap64 (a0_1 - 1))).bind fun t109 => (tidewallref08_Check.j2 k2 x3_2 (!t109) a0_0 a0_1 l0_2 ((rd_T175 l0_2 x3_2).f0) ((rd_T175 l0_2 x3_2).f1) ((rd_T175 l0_2 x3_2).f2.f0) ((rd_T175 l0_2 x3_2).f2.f1) ((rd_T175 l0_2 x3_2).f3) ((rd_T175 l0_2 x3_2).f4))) = some r := by rw [if_pos rfl] at H; exact H
                        clear H
                        have H := H1
                        clear H1
                        replace H := Option.bind_eq_some_iff.mp H
                        obtain ⟨t109, A240, H⟩ := H
                        replace H : (tidewallref08_Check.j2 k2 x3_2 (!t109) a0_0 a0_1 l0_2 ((rd_T175 l0_2 x3_2).f0) ((rd_T175 l0_2 x3_2).f1) ((rd_T175 l0_2 x3_2).f2.f0) ((rd_T175 l0_2 x3_2).f2.f1) ((rd_T175 l0_2 x3_2).f3) ((rd_T175 l0_2 x3_2).f4)) = some r := H
                        have A24 := Aside0.mk A240
                        clear A240
                        have H' := Aside0.mk H
                        clear H
                        have hnb25 := NB106_102.out
                        have hnc25 := NB102_106.out
                        have hcz26_0 : w17.cell? ⟨gb106, 0, none⟩ = some (.int .i64 0) := (blk_cell BK106.out 0).trans rfl
                        have hcz26_1 : w17.cell? ⟨gb106, 1, none⟩ = some (.int .i64 0) := (blk_cell BK106.out 1).trans rfl
                        have hcz26_2 : w17.cell? ⟨gb106, 2, none⟩ = some (.int .i64 0) := (blk_cell BK106.out 2).trans rfl
                        have hcz26_3 : w17.cell? ⟨gb106, 3, none⟩ = some (.int .i64 0) := (blk_cell BK106.out 3).trans rfl
                        have hcz26_4 : w17.cell? ⟨gb106, 4, none⟩ = some (.int .i64 0) := (blk_cell BK106.out 4).trans rfl
                        have hcz26_5 : w17.cell? ⟨gb106, 5, none⟩ = some (.bool false) := (blk_cell BK106.out 5).trans rfl
                        have hfz26_0 := blk_frozen BK106.out 0
                        have hfz26_1 := blk_frozen BK106.out 1
                        have hfz26_2 := blk_frozen BK106.out 2
                        have hfz26_3 := blk_frozen BK106.out 3
                        have hfz26_4 := blk_frozen BK106.out 4
                        have hfz26_5 := blk_frozen BK106.out 5
                        have hcz27_0 : w17.cell? ⟨gb102, 0, none⟩ = some (.int .i64 a0_0) := (blk_cell BK102.out 0).trans rfl
                        have hcz27_1 : w17.cell? ⟨gb102, 1, none⟩ = some (.int .i64 a0_1) := (blk_cell BK102.out 1).trans rfl
                        have hcz27_2 : w17.cell? ⟨gb102, 2, none⟩ = some (.slice (some ad105) l0_2.length c0_2) := (blk_cell BK102.out 2).trans rfl
                        have hfz27_0 := blk_frozen BK102.out 0
                        have hfz27_1 := blk_frozen BK102.out 1
                        have hfz27_2 := blk_frozen BK102.out 2
                        go_wp2_with (first | ((with_reducible refine gate_callee (f := 81) rfl ?_); refine goesL_ (some 36) rfl rfl Try.func81 (by kernel_rfl) rfl #[.int .i64 ((rd_T175 l0_2 x3_2).f0), .int .i64 0, .int .i64 (wrap64 (a0_0 - 1))] rfl (by (try simp only [List.map_toArray, List.map_cons, List.map_nil]); first | done | rfl | (simp only [List.length_drop, List.length_take]; rfl)) ?_; (with_reducible refine (tidewallref08_within.calls ((rd_T175 l0_2 x3_2).f0) 0 (wrap64 (a0_0 - 1)) true _ A20.out).mono ?_); rintro e w' ⟨rfl, ⟨nd, rfl⟩⟩; refine ⟨_, rfl, ?_⟩) | (go_at_call 81; (with_reducible refine (tidewallref08_within.calls ((rd_T175 l0_2 x3_2).f1) 0 (wrap64 (a0_0 - 1)) true _ A22.out).mono ?_); rintro e w' ⟨rfl, ⟨nd, rfl⟩⟩) | (go_at_call 81; (with_reducible refine (tidewallref08_within.calls ((rd_T175 l0_2 x3_2).f3) (-1) (wrap64 (a0_1 - 1)) t109 _ A24.out).mono ?_); rintro e w' ⟨rfl, ⟨nd, rfl⟩⟩))
                        go_meet
                        case rel => exact ⟨_, (!t109), (by first | rfl | (simp; done) | (simp [*]; done)), H', ⟨by have := HJ1.out; have := HK2.out; first | omega | exact Nat.le_refl _⟩, ⟨by (with_reducible repeat (first | refine blk_drewN ?_ _ | refine blk_drew ?_ | refine blk_alloc ?_ _)); refine blk_far ?_ NB102_106.out _; (with_reducible repeat (first | refine blk_drewN ?_ _ | refine blk_drew ?_ | refine blk_alloc ?_ _)); refine blk_far ?_ NB102_106.out _; (with_reducible repeat (first | refine blk_drewN ?_ _ | refine blk_drew ?_ | refine blk_alloc ?_ _)); refine blk_far ?_ NB102_106.out _; (with_reducible repeat (first | refine blk_drewN ?_ _ | refine blk_drew ?_ | refine blk_alloc ?_ _)); refine blk_far ?_ NB102_106.out _; (with_reducible repeat (first | refine blk_drewN ?_ _ | refine blk_drew ?_ | refine blk_alloc ?_ _)); refine blk_far ?_ NB102_106.out _; (with_reducible repeat (first | refine blk_drewN ?_ _ | refine blk_drew ?_ | refine blk_alloc ?_ _)); refine blk_far ?_ NB102_106.out _; (with_reducible repeat (first | refine blk_drewN ?_ _ | refine blk_drew ?_ | refine blk_alloc ?_ _)); exact BK102.out⟩, ⟨by (with_reducible repeat (first | refine blk_drewN ?_ _ | refine blk_drew ?_ | refine blk_alloc ?_ _)); refine blk_put (cs := #[.int .i64 ((rd_T175 l0_2 x3_2).f0), .int .i64 ((rd_T175 l0_2 x3_2).f1), .int .i64 ((rd_T175 l0_2 x3_2).f2.f0), .int .i64 ((rd_T175 l0_2 x3_2).f2.f1), .int .i64 ((rd_T175 l0_2 x3_2).f3), .bool false]) ?_ 5 _ rfl; (with_reducible repeat (first | refine blk_drewN ?_ _ | refine blk_drew ?_ | refine blk_alloc ?_ _)); refine blk_put (cs := #[.int .i64 ((rd_T175 l0_2 x3_2).f0), .int .i64 ((rd_T175 l0_2 x3_2).f1), .int .i64 ((rd_T175 l0_2 x3_2).f2.f0), .int .i64 ((rd_T175 l0_2 x3_2).f2.f1), .int .i64 0, .bool false]) ?_ 4 _ rfl; (with_reducible repeat (first | refine blk_drewN ?_ _ | refine blk_drew ?_ | refine blk_alloc ?_ _)); refine blk_put (cs := #[.int .i64 ((rd_T175 l0_2 x3_2).f0), .int .i64 ((rd_T175 l0_2 x3_2).f1), .int .i64 ((rd_T175 l0_2 x3_2).f2.f0), .int .i64 0, .int .i64 0, .bool false]) ?_ 3 _ rfl; (with_reducible repeat (first | refine blk_drewN ?_ _ | refine blk_drew ?_ | refine blk_alloc ?_ _)); refine blk_put (cs := #[.int .i64 ((rd_T175 l0_2 x3_2).f0), .int .i64 ((rd_T175 l0_2 x3_2).f1), .int .i64 0, .int .i64 0, .int .i64 0, .bool false]) ?_ 2 _ rfl; (with_reducible repeat (first | refine blk_drewN ?_ _ | refine blk_drew ?_ | refine blk_alloc ?_ _)); refine blk_put (cs := #[.int .i64 ((rd_T175 l0_2 x3_2).f0), .int .i64 0, .int .i64 0, .int .i64 0, .int .i64 0, .bool false]) ?_ 1 _ rfl; (with_reducible repeat (first | refine blk_drewN ?_ _ | refine blk_drew ?_ | refine blk_alloc ?_ _)); refine blk_put (cs := #[.int .i64 0, .int .i64 0, .int .i64 0, .int .i64 0, .int .i64 0, .bool false]) ?_ 0 _ rfl; (with_reducible repeat (first | refine blk_drewN ?_ _ | refine blk_drew ?_ | refine blk_alloc ?_ _)); exact BK106.out⟩, ⟨by repeat (first | (with_reducible first | exact HB.out | apply below_alloc | apply pw_below_drewN | apply below_drew1 | refine below_set ?_ GE102.out | refine below_set ?_ GE106.out) | exact HB.out)⟩⟩
                      · replace c23 := Bool.eq_false_iff.mpr c23
                        subst c23
                        have H1 : (tidewallref08_Check.j2 k2 x3_2 true a0_0 a0_1 l0_2 ((rd_T175 l0_2 x3_2).f0) ((rd_T175 l0_2 x3_2).f1) ((rd_T175 l0_2 x3_2).f2.f0) ((rd_T175 l0_2 x3_2).f2.f1) ((rd_T175 l0_2 x3_2).f3) ((rd_T175 l0_2 x3_2).f4)) = some r := by rw [if_neg (show ¬ (false = true) by decide)] at H; exact H
                        clear H
                        have H := H1
                        clear H1
                        have H' := Aside0.mk H
                        clear H
                        have hnb28 := NB106_102.out
                        have hnc28 := NB102_106.out
                        have hcz29_0 : w17.cell? ⟨gb106, 0, none⟩ = some (.int .i64 0) := (blk_cell BK106.out 0).trans rfl
                        have hcz29_1 : w17.cell? ⟨gb106, 1, none⟩ = some (.int .i64 0) := (blk_cell BK106.out 1).trans rfl
                        have hcz29_2 : w17.cell? ⟨gb106, 2, none⟩ = some (.int .i64 0) := (blk_cell BK106.out 2).trans rfl
                        have hcz29_3 : w17.cell? ⟨gb106, 3, none⟩ = some (.int .i64 0) := (blk_cell BK106.out 3).trans rfl
                        have hcz29_4 : w17.cell? ⟨gb106, 4, none⟩ = some (.int .i64 0) := (blk_cell BK106.out 4).trans rfl
                        have hcz29_5 : w17.cell? ⟨gb106, 5, none⟩ = some (.bool false) := (blk_cell BK106.out 5).trans rfl
                        have hfz29_0 := blk_frozen BK106.out 0
                        have hfz29_1 := blk_frozen BK106.out 1
                        have hfz29_2 := blk_frozen BK106.out 2
                        have hfz29_3 := blk_frozen BK106.out 3
                        have hfz29_4 := blk_frozen BK106.out 4
                        have hfz29_5 := blk_frozen BK106.out 5
                        have hcz30_0 : w17.cell? ⟨gb102, 0, none⟩ = some (.int .i64 a0_0) := (blk_cell BK102.out 0).trans rfl
                        have hcz30_1 : w17.cell? ⟨gb102, 1, none⟩ = some (.int .i64 a0_1) := (blk_cell BK102.out 1).trans rfl
                        have hcz30_2 : w17.cell? ⟨gb102, 2, none⟩ = some (.slice (some ad105) l0_2.length c0_2) := (blk_cell BK102.out 2).trans rfl
                        have hfz30_0 := blk_frozen BK102.out 0
                        have hfz30_1 := blk_frozen BK102.out 1
                        have hfz30_2 := blk_frozen BK102.out 2
                        go_wp2_with (first | ((with_reducible refine gate_callee (f := 81) rfl ?_); refine goesL_ (some 36) rfl rfl Try.func81 (by kernel_rfl) rfl #[.int .i64 ((rd_T175 l0_2 x3_2).f0), .int .i64 0, .int .i64 (wrap64 (a0_0 - 1))] rfl (by (try simp only [List.map_toArray, List.map_cons, List.map_nil]); first | done | rfl | (simp only [List.length_drop, List.length_take]; rfl)) ?_; (with_reducible refine (tidewallref08_within.calls ((rd_T175 l0_2 x3_2).f0) 0 (wrap64 (a0_0 - 1)) true _ A20.out).mono ?_); rintro e w' ⟨rfl, ⟨nd, rfl⟩⟩; refine ⟨_, rfl, ?_⟩) | (go_at_call 81; (with_reducible refine (tidewallref08_within.calls ((rd_T175 l0_2 x3_2).f1) 0 (wrap64 (a0_0 - 1)) false _ A22.out).mono ?_); rintro e w' ⟨rfl, ⟨nd, rfl⟩⟩))
                        go_meet
                        case rel => exact ⟨_, (true), (by first | rfl | (simp; done) | (simp [*]; done)), H', ⟨by have := HJ1.out; have := HK2.out; first | omega | exact Nat.le_refl _⟩, ⟨by (with_reducible repeat (first | refine blk_drewN ?_ _ | refine blk_drew ?_ | refine blk_alloc ?_ _)); refine blk_far ?_ NB102_106.out _; (with_reducible repeat (first | refine blk_drewN ?_ _ | refine blk_drew ?_ | refine blk_alloc ?_ _)); refine blk_far ?_ NB102_106.out _; (with_reducible repeat (first | refine blk_drewN ?_ _ | refine blk_drew ?_ | refine blk_alloc ?_ _)); refine blk_far ?_ NB102_106.out _; (with_reducible repeat (first | refine blk_drewN ?_ _ | refine blk_drew ?_ | refine blk_alloc ?_ _)); refine blk_far ?_ NB102_106.out _; (with_reducible repeat (first | refine blk_drewN ?_ _ | refine blk_drew ?_ | refine blk_alloc ?_ _)); refine blk_far ?_ NB102_106.out _; (with_reducible repeat (first | refine blk_drewN ?_ _ | refine blk_drew ?_ | refine blk_alloc ?_ _)); refine blk_far ?_ NB102_106.out _; (with_reducible repeat (first | refine blk_drewN ?_ _ | refine blk_drew ?_ | refine blk_alloc ?_ _)); exact BK102.out⟩, ⟨by (with_reducible repeat (first | refine blk_drewN ?_ _ | refine blk_drew ?_ | refine blk_alloc ?_ _)); refine blk_put (cs := #[.int .i64 ((rd_T175 l0_2 x3_2).f0), .int .i64 ((rd_T175 l0_2 x3_2).f1), .int .i64 ((rd_T175 l0_2 x3_2).f2.f0), .int .i64 ((rd_T175 l0_2 x3_2).f2.f1), .int .i64 ((rd_T175 l0_2 x3_2).f3), .bool false]) ?_ 5 _ rfl; (with_reducible repeat (first | refine blk_drewN ?_ _ | refine blk_drew ?_ | refine blk_alloc ?_ _)); refine blk_put (cs := #[.int .i64 ((rd_T175 l0_2 x3_2).f0), .int .i64 ((rd_T175 l0_2 x3_2).f1), .int .i64 ((rd_T175 l0_2 x3_2).f2.f0), .int .i64 ((rd_T175 l0_2 x3_2).f2.f1), .int .i64 0, .bool false]) ?_ 4 _ rfl; (with_reducible repeat (first | refine blk_drewN ?_ _ | refine blk_drew ?_ | refine blk_alloc ?_ _)); refine blk_put (cs := #[.int .i64 ((rd_T175 l0_2 x3_2).f0), .int .i64 ((rd_T175 l0_2 x3_2).f1), .int .i64 ((rd_T175 l0_2 x3_2).f2.f0), .int .i64 0, .int .i64 0, .bool false]) ?_ 3 _ rfl; (with_reducible repeat (first | refine blk_drewN ?_ _ | refine blk_drew ?_ | refine blk_alloc ?_ _)); refine blk_put (cs := #[.int .i64 ((rd_T175 l0_2 x3_2).f0), .int .i64 ((rd_T175 l0_2 x3_2).f1), .int .i64 0, .int .i64 0, .int .i64 0, .bool false]) ?_ 2 _ rfl; (with_reducible repeat (first | refine blk_drewN ?_ _ | refine blk_drew ?_ | refine blk_alloc ?_ _)); refine blk_put (cs := #[.int .i64 ((rd_T175 l0_2 x3_2).f0), .int .i64 0, .int .i64 0, .int .i64 0, .int .i64 0, .bool false]) ?_ 1 _ rfl; (with_reducible repeat (first | refine blk_drewN ?_ _ | refine blk_drew ?_ | refine blk_alloc ?_ _)); refine blk_put (cs := #[.int .i64 0, .int .i64 0, .int .i64 0, .int .i64 0, .int .i64 0, .bool false]) ?_ 0 _ rfl; (with_reducible repeat (first | refine blk_drewN ?_ _ | refine blk_drew ?_ | refine blk_alloc ?_ _)); exact BK106.out⟩, ⟨by repeat (first | (with_reducible first | exact HB.out | apply below_alloc | apply pw_below_drewN | apply below_drew1 | refine below_set ?_ GE102.out | refine below_set ?_ GE106.out) | exact HB.out)⟩⟩
                    · replace c21 := Bool.eq_false_iff.mpr c21
                      subst c21
                      have H1 : (tidewallref08_Check.j2 k2 x3_2 true a0_0 a0_1 l0_2 ((rd_T175 l0_2 x3_2).f0) ((rd_T175 l0_2 x3_2).f1) ((rd_T175 l0_2 x3_2).f2.f0) ((rd_T175 l0_2 x3_2).f2.f1) ((rd_T175 l0_2 x3_2).f3) ((rd_T175 l0_2 x3_2).f4)) = some r := by rw [if_neg (show ¬ (false = true) by decide)] at H; exact H
                      clear H
                      have H := H1
                      clear H1
                      have H' := Aside0.mk H
                      clear H
                      have hnb31 := NB106_102.out
                      have hnc31 := NB102_106.out
                      have hcz32_0 : w17.cell? ⟨gb106, 0, none⟩ = some (.int .i64 0) := (blk_cell BK106.out 0).trans rfl
                      have hcz32_1 : w17.cell? ⟨gb106, 1, none⟩ = some (.int .i64 0) := (blk_cell BK106.out 1).trans rfl
                      have hcz32_2 : w17.cell? ⟨gb106, 2, none⟩ = some (.int .i64 0) := (blk_cell BK106.out 2).trans rfl
                      have hcz32_3 : w17.cell? ⟨gb106, 3, none⟩ = some (.int .i64 0) := (blk_cell BK106.out 3).trans rfl
                      have hcz32_4 : w17.cell? ⟨gb106, 4, none⟩ = some (.int .i64 0) := (blk_cell BK106.out 4).trans rfl
                      have hcz32_5 : w17.cell? ⟨gb106, 5, none⟩ = some (.bool false) := (blk_cell BK106.out 5).trans rfl
                      have hfz32_0 := blk_frozen BK106.out 0
                      have hfz32_1 := blk_frozen BK106.out 1
                      have hfz32_2 := blk_frozen BK106.out 2
                      have hfz32_3 := blk_frozen BK106.out 3
                      have hfz32_4 := blk_frozen BK106.out 4
                      have hfz32_5 := blk_frozen BK106.out 5
                      have hcz33_0 : w17.cell? ⟨gb102, 0, none⟩ = some (.int .i64 a0_0) := (blk_cell BK102.out 0).trans rfl
                      have hcz33_1 : w17.cell? ⟨gb102, 1, none⟩ = some (.int .i64 a0_1) := (blk_cell BK102.out 1).trans rfl
                      have hcz33_2 : w17.cell? ⟨gb102, 2, none⟩ = some (.slice (some ad105) l0_2.length c0_2) := (blk_cell BK102.out 2).trans rfl
                      have hfz33_0 := blk_frozen BK102.out 0
                      have hfz33_1 := blk_frozen BK102.out 1
                      have hfz33_2 := blk_frozen BK102.out 2
                      go_wp2_with (first | ((with_reducible refine gate_callee (f := 81) rfl ?_); refine goesL_ (some 36) rfl rfl Try.func81 (by kernel_rfl) rfl #[.int .i64 ((rd_T175 l0_2 x3_2).f0), .int .i64 0, .int .i64 (wrap64 (a0_0 - 1))] rfl (by (try simp only [List.map_toArray, List.map_cons, List.map_nil]); first | done | rfl | (simp only [List.length_drop, List.length_take]; rfl)) ?_; (with_reducible refine (tidewallref08_within.calls ((rd_T175 l0_2 x3_2).f0) 0 (wrap64 (a0_0 - 1)) false _ A20.out).mono ?_); rintro e w' ⟨rfl, ⟨nd, rfl⟩⟩; refine ⟨_, rfl, ?_⟩))
                      go_meet
                      case rel => exact ⟨_, (true), (by first | rfl | (simp; done) | (simp [*]; done)), H', ⟨by have := HJ1.out; have := HK2.out; first | omega | exact Nat.le_refl _⟩, ⟨by (with_reducible repeat (first | refine blk_drewN ?_ _ | refine blk_drew ?_ | refine blk_alloc ?_ _)); refine blk_far ?_ NB102_106.out _; (with_reducible repeat (first | refine blk_drewN ?_ _ | refine blk_drew ?_ | refine blk_alloc ?_ _)); refine blk_far ?_ NB102_106.out _; (with_reducible repeat (first | refine blk_drewN ?_ _ | refine blk_drew ?_ | refine blk_alloc ?_ _)); refine blk_far ?_ NB102_106.out _; (with_reducible repeat (first | refine blk_drewN ?_ _ | refine blk_drew ?_ | refine blk_alloc ?_ _)); refine blk_far ?_ NB102_106.out _; (with_reducible repeat (first | refine blk_drewN ?_ _ | refine blk_drew ?_ | refine blk_alloc ?_ _)); refine blk_far ?_ NB102_106.out _; (with_reducible repeat (first | refine blk_drewN ?_ _ | refine blk_drew ?_ | refine blk_alloc ?_ _)); refine blk_far ?_ NB102_106.out _; (with_reducible repeat (first | refine blk_drewN ?_ _ | refine blk_drew ?_ | refine blk_alloc ?_ _)); exact BK102.out⟩, ⟨by (with_reducible repeat (first | refine blk_drewN ?_ _ | refine blk_drew ?_ | refine blk_alloc ?_ _)); refine blk_put (cs := #[.int .i64 ((rd_T175 l0_2 x3_2).f0), .int .i64 ((rd_T175 l0_2 x3_2).f1), .int .i64 ((rd_T175 l0_2 x3_2).f2.f0), .int .i64 ((rd_T175 l0_2 x3_2).f2.f1), .int .i64 ((rd_T175 l0_2 x3_2).f3), .bool false]) ?_ 5 _ rfl; (with_reducible repeat (first | refine blk_drewN ?_ _ | refine blk_drew ?_ | refine blk_alloc ?_ _)); refine blk_put (cs := #[.int .i64 ((rd_T175 l0_2 x3_2).f0), .int .i64 ((rd_T175 l0_2 x3_2).f1), .int .i64 ((rd_T175 l0_2 x3_2).f2.f0), .int .i64 ((rd_T175 l0_2 x3_2).f2.f1), .int .i64 0, .bool false]) ?_ 4 _ rfl; (with_reducible repeat (first | refine blk_drewN ?_ _ | refine blk_drew ?_ | refine blk_alloc ?_ _)); refine blk_put (cs := #[.int .i64 ((rd_T175 l0_2 x3_2).f0), .int .i64 ((rd_T175 l0_2 x3_2).f1), .int .i64 ((rd_T175 l0_2 x3_2).f2.f0), .int .i64 0, .int .i64 0, .bool false]) ?_ 3 _ rfl; (with_reducible repeat (first | refine blk_drewN ?_ _ | refine blk_drew ?_ | refine blk_alloc ?_ _)); refine blk_put (cs := #[.int .i64 ((rd_T175 l0_2 x3_2).f0), .int .i64 ((rd_T175 l0_2 x3_2).f1), .int .i64 0, .int .i64 0, .int .i64 0, .bool false]) ?_ 2 _ rfl; (with_reducible repeat (first | refine blk_drewN ?_ _ | refine blk_drew ?_ | refine blk_alloc ?_ _)); refine blk_put (cs := #[.int .i64 ((rd_T175 l0_2 x3_2).f0), .int .i64 0, .int .i64 0, .int .i64 0, .int .i64 0, .bool false]) ?_ 1 _ rfl; (with_reducible repeat (first | refine blk_drewN ?_ _ | refine blk_drew ?_ | refine blk_alloc ?_ _)); refine blk_put (cs := #[.int .i64 0, .int .i64 0, .int .i64 0, .int .i64 0, .int .i64 0, .bool false]) ?_ 0 _ rfl; (with_reducible repeat (first | refine blk_drewN ?_ _ | refine blk_drew ?_ | refine blk_alloc ?_ _)); exact BK106.out⟩, ⟨by repeat (first | (with_reducible first | exact HB.out | apply below_alloc | apply pw_below_drewN | apply below_drew1 | refine below_set ?_ GE102.out | refine below_set ?_ GE106.out) | exact HB.out)⟩⟩
                  case rest =>
                    clear HC15
                    try clear c1
                    try clear p1
                    try clear q1
                    try clear hx1
                    try clear c2
                    try clear p2
                    try clear c3
                    try clear c4
                    try clear c5
                    try clear p6
                    try clear c8
                    try clear c9
                    try clear c10
                    try clear c10b0
                    try clear c10b1
                    try clear p10
                    try clear q10
                    try clear hx10
                    try clear c13
                    try clear c13b0
                    try clear c14
                    try clear c14b0
                    try clear c18
                    try clear c21
                    try clear c23
                    try clear c25
                    try clear c28
                    try clear c31
                    try clear hcz11_0
                    try clear hcz11_1
                    try clear hcz11_2
                    try clear hcz12_0
                    try clear hcz12_1
                    try clear hcz12_2
                    try clear hcz16_0
                    try clear hcz16_1
                    try clear hcz16_2
                    try clear hcz19_0
                    try clear hcz19_1
                    try clear hcz19_2
                    try clear hcz19_3
                    try clear hcz19_4
                    try clear hcz19_5
                    try clear hcz26_0
                    try clear hcz26_1
                    try clear hcz26_2
                    try clear hcz26_3
                    try clear hcz26_4
                    try clear hcz26_5
                    try clear hcz27_0
                    try clear hcz27_1
                    try clear hcz27_2
                    try clear hcz29_0
                    try clear hcz29_1
                    try clear hcz29_2
                    try clear hcz29_3
                    try clear hcz29_4
                    try clear hcz29_5
                    try clear hcz30_0
                    try clear hcz30_1
                    try clear hcz30_2
                    try clear hcz32_0
                    try clear hcz32_1
                    try clear hcz32_2
                    try clear hcz32_3
                    try clear hcz32_4
                    try clear hcz32_5
                    try clear hcz33_0
                    try clear hcz33_1
                    try clear hcz33_2
                    try clear hcz7_0
                    try clear hcz7_1
                    try clear hcz7_2
                    try clear hcz8_0
                    try clear hcz8_1
                    try clear hcz8_2
                    try clear hfz11_0
                    try clear hfz11_1
                    try clear hfz11_2
                    try clear hfz12_0
                    try clear hfz12_1
                    try clear hfz12_2
                    try clear hfz16_0
                    try clear hfz16_1
                    try clear hfz16_2
                    try clear hfz19_0
                    try clear hfz19_1
                    try clear hfz19_2
                    try clear hfz19_3
                    try clear hfz19_4
                    try clear hfz19_5
                    try clear hfz26_0
                    try clear hfz26_1
                    try clear hfz26_2
                    try clear hfz26_3
                    try clear hfz26_4
                    try clear hfz26_5
                    try clear hfz27_0
                    try clear hfz27_1
                    try clear hfz27_2
                    try clear hfz29_0
                    try clear hfz29_1
                    try clear hfz29_2
                    try clear hfz29_3
                    try clear hfz29_4
                    try clear hfz29_5
                    try clear hfz30_0
                    try clear hfz30_1
                    try clear hfz30_2
                    try clear hfz32_0
                    try clear hfz32_1
                    try clear hfz32_2
                    try clear hfz32_3
                    try clear hfz32_4
                    try clear hfz32_5
                    try clear hfz33_0
                    try clear hfz33_1
                    try clear hfz33_2
                    try clear hfz7_0
                    try clear hfz7_1
                    try clear hfz7_2
                    try clear hfz8_0
                    try clear hfz8_1
                    try clear hfz8_2
                    try clear hx105_0
                    try clear hx105_1
                    try clear hx105_2
                    try clear hx105_3
                    try clear hx105_4
                    try clear hx105_5
                    try clear p105
                    try clear p2
                    try clear q105
                    obtain ⟨kq, x55_14, rfl, HA, HJ14, BK102, BK106, HB⟩ := hcut
                    cases kq with
                    | zero => exact absurd HA.out (by simp [tidewallref08_Check.j2])
                    | succ kj14 =>
                      have H := HA.out
                      clear HA
                      simp only [tidewallref08_Check.j2] at H
                      by_cases c34 : x55_14 = true
                      · subst c34
                        have H1 : (some 4) = some r := by rw [if_pos rfl] at H; exact H
                        clear H
                        have H := H1
                        clear H1
                        obtain rfl := Option.some.inj H
                        go_wp2
                        go_ret
                        exact ⟨by first | rfl | (simp [errW_none, errW_some] <;> rfl) | (simp [*, errW_none, errW_some] <;> rfl), by repeat (first | (with_reducible first | exact HB.out | apply below_alloc | apply pw_below_drewN | apply below_drew1 | refine below_set ?_ GE102.out | refine below_set ?_ GE106.out) | exact HB.out)⟩
                      · replace c34 := Bool.eq_false_iff.mpr c34
                        subst c34
                        have H1 : (if ((rd_T175 l0_2 x3_2).f0) = ((rd_T175 l0_2 x3_2).f1) then (some 2) else ((tidewallref08_span.f ((rd_T175 l0_2 x3_2).f2.f0) ((rd_T175 l0_2 x3_2).f2.f1)).bind fun t110 => (if t110 = true then (tidewallref08_Check.l0 kj14 (wrap64 (x3_2 + 1)) a0_0 a0_1 l0_2) else (some 3)))) = some r := by rw [if_neg (show ¬ (false = true) by decide)] at H; exact H
                        clear H
                        have H := H1
                        clear H1
                        by_cases c35 : ((rd_T175 l0_2 x3_2).f0) = ((rd_T175 l0_2 x3_2).f1)
                        · rw [if_pos c35] at H
                          have c35b0 : (((rd_T175 l0_2 x3_2).f0) == ((rd_T175 l0_2 x3_2).f1)) = true := beq_iff_eq.mpr c35
                          have c35b1 : (((rd_T175 l0_2 x3_2).f0) != ((rd_T175 l0_2 x3_2).f1)) = false := bne_eq_false_iff_eq.mpr c35
                          clear c35
                          obtain rfl := Option.some.inj H
                          have hnb36 := NB106_102.out
                          have hnc36 := NB102_106.out
                          have hcz37_0 : wc.cell? ⟨gb106, 0, none⟩ = some (.int .i64 ((rd_T175 l0_2 x3_2).f0)) := (blk_cell BK106.out 0).trans rfl
                          have hcz37_1 : wc.cell? ⟨gb106, 1, none⟩ = some (.int .i64 ((rd_T175 l0_2 x3_2).f1)) := (blk_cell BK106.out 1).trans rfl
                          have hcz37_2 : wc.cell? ⟨gb106, 2, none⟩ = some (.int .i64 ((rd_T175 l0_2 x3_2).f2.f0)) := (blk_cell BK106.out 2).trans rfl
                          have hcz37_3 : wc.cell? ⟨gb106, 3, none⟩ = some (.int .i64 ((rd_T175 l0_2 x3_2).f2.f1)) := (blk_cell BK106.out 3).trans rfl
                          have hcz37_4 : wc.cell? ⟨gb106, 4, none⟩ = some (.int .i64 ((rd_T175 l0_2 x3_2).f3)) := (blk_cell BK106.out 4).trans rfl
                          have hcz37_5 : wc.cell? ⟨gb106, 5, none⟩ = some (.bool ((rd_T175 l0_2 x3_2).f4)) := (blk_cell BK106.out 5).trans rfl
                          have hfz37_0 := blk_frozen BK106.out 0
                          have hfz37_1 := blk_frozen BK106.out 1
                          have hfz37_2 := blk_frozen BK106.out 2
                          have hfz37_3 := blk_frozen BK106.out 3
                          have hfz37_4 := blk_frozen BK106.out 4
                          have hfz37_5 := blk_frozen BK106.out 5
                          go_wp2
                          go_ret
                          exact ⟨by first | rfl | (simp [errW_none, errW_some] <;> rfl) | (simp [*, errW_none, errW_some] <;> rfl), by repeat (first | (with_reducible first | exact HB.out | apply below_alloc | apply pw_below_drewN | apply below_drew1 | refine below_set ?_ GE102.out | refine below_set ?_ GE106.out) | exact HB.out)⟩
                        · rw [if_neg c35] at H
                          have c35b0 : (((rd_T175 l0_2 x3_2).f0) == ((rd_T175 l0_2 x3_2).f1)) = false := beq_eq_false_iff_ne.mpr c35
                          have c35b1 : (((rd_T175 l0_2 x3_2).f0) != ((rd_T175 l0_2 x3_2).f1)) = true := bne_iff_ne.mpr c35
                          replace H := Option.bind_eq_some_iff.mp H
                          obtain ⟨t110, A380, H⟩ := H
                          replace H : (if t110 = true then (tidewallref08_Check.l0 kj14 (wrap64 (x3_2 + 1)) a0_0 a0_1 l0_2) else (some 3)) = some r := H
                          have A38 := Aside0.mk A380
                          clear A380
                          by_cases c39 : t110 = true
                          · subst c39
                            have H1 : (tidewallref08_Check.l0 kj14 (wrap64 (x3_2 + 1)) a0_0 a0_1 l0_2) = some r := by rw [if_pos rfl] at H; exact H
                            clear H
                            have H := H1
                            clear H1
                            have H' := Aside0.mk H
                            clear H
                            have hnb40 := NB106_102.out
                            have hnc40 := NB102_106.out
                            have hcz41_0 : wc.cell? ⟨gb106, 0, none⟩ = some (.int .i64 ((rd_T175 l0_2 x3_2).f0)) := (blk_cell BK106.out 0).trans rfl
                            have hcz41_1 : wc.cell? ⟨gb106, 1, none⟩ = some (.int .i64 ((rd_T175 l0_2 x3_2).f1)) := (blk_cell BK106.out 1).trans rfl
                            have hcz41_2 : wc.cell? ⟨gb106, 2, none⟩ = some (.int .i64 ((rd_T175 l0_2 x3_2).f2.f0)) := (blk_cell BK106.out 2).trans rfl
                            have hcz41_3 : wc.cell? ⟨gb106, 3, none⟩ = some (.int .i64 ((rd_T175 l0_2 x3_2).f2.f1)) := (blk_cell BK106.out 3).trans rfl
                            have hcz41_4 : wc.cell? ⟨gb106, 4, none⟩ = some (.int .i64 ((rd_T175 l0_2 x3_2).f3)) := (blk_cell BK106.out 4).trans rfl
                            have hcz41_5 : wc.cell? ⟨gb106, 5, none⟩ = some (.bool ((rd_T175 l0_2 x3_2).f4)) := (blk_cell BK106.out 5).trans rfl
                            have hfz41_0 := blk_frozen BK106.out 0
                            have hfz41_1 := blk_frozen BK106.out 1
                            have hfz41_2 := blk_frozen BK106.out 2
                            have hfz41_3 := blk_frozen BK106.out 3
                            have hfz41_4 := blk_frozen BK106.out 4
                            have hfz41_5 := blk_frozen BK106.out 5
                            go_wp2_with (first | ((with_reducible refine gate_callee (f := 103) rfl ?_); refine goesL_ (some 63) rfl rfl Try.func103 (by kernel_rfl) rfl #[.agg #[.int .i64 ((rd_T175 l0_2 x3_2).f2.f0), .int .i64 ((rd_T175 l0_2 x3_2).f2.f1)]] rfl (by (try simp only [List.map_toArray, List.map_cons, List.map_nil]); first | done | rfl | (simp only [List.length_drop, List.length_take]; rfl)) ?_; (with_reducible refine (tidewallref08_span.calls ((rd_T175 l0_2 x3_2).f2.f0) ((rd_T175 l0_2 x3_2).f2.f1) true _ A38.out).mono ?_); rintro e w42 ⟨rfl, hb⟩; refine ⟨_, rfl, ?_⟩; have n0_ := Aside0.mk (blk_below (g := gb102) (o := .cells #[.int .i64 a0_0, .int .i64 a0_1, .slice (some ad105) l0_2.length c0_2] 77 (0, 0)) (by (with_reducible repeat (first | refine blk_drewN ?_ _ | refine blk_drew ?_ | refine blk_alloc ?_ _)); exact BK102.out) hb); have n1_ := Aside0.mk (blk_below (g := gb106) (o := .cells #[.int .i64 ((rd_T175 l0_2 x3_2).f0), .int .i64 ((rd_T175 l0_2 x3_2).f1), .int .i64 ((rd_T175 l0_2 x3_2).f2.f0), .int .i64 ((rd_T175 l0_2 x3_2).f2.f1), .int .i64 ((rd_T175 l0_2 x3_2).f3), .bool ((rd_T175 l0_2 x3_2).f4)] 175 (0, 0)) (by (with_reducible repeat (first | refine blk_drewN ?_ _ | refine blk_drew ?_ | refine blk_alloc ?_ _)); exact BK106.out) hb); have n2_ := Aside0.mk (below_step (by repeat (first | (with_reducible first | exact HB.out | apply below_alloc | apply pw_below_drewN | apply below_drew1 | refine below_set ?_ GE102.out | refine below_set ?_ GE106.out) | exact HB.out)) hb); clear BK102; clear BK106; clear HB; have BK102 := n0_; have BK106 := n1_; have HB := n2_; clear n0_ n1_ n2_; (try clear hb); (try clear hb2); (try clear hk); (try clear hi)))
                            go_roundg kj14
                            case measure => have := HJ1.out; have := HK2.out; have := HJ14.out; omega
                            case rel => exact ⟨(wrap64 (x3_2 + 1)), (by first | rfl | (simp; done) | (simp [*]; done)), H', ⟨by have := HJ1.out; have := HK2.out; have := HJ14.out; omega⟩, ⟨by (with_reducible repeat (first | refine blk_drewN ?_ _ | refine blk_drew ?_ | refine blk_alloc ?_ _)); exact BK102.out⟩, ⟨by repeat (first | (with_reducible first | exact HB.out | apply below_alloc | apply pw_below_drewN | apply below_drew1 | refine below_set ?_ GE102.out | refine below_set ?_ GE106.out) | exact HB.out)⟩⟩
                          · replace c39 := Bool.eq_false_iff.mpr c39
                            subst c39
                            have H1 : (some 3) = some r := by rw [if_neg (show ¬ (false = true) by decide)] at H; exact H
                            clear H
                            have H := H1
                            clear H1
                            obtain rfl := Option.some.inj H
                            have hnb43 := NB106_102.out
                            have hnc43 := NB102_106.out
                            have hcz44_0 : wc.cell? ⟨gb106, 0, none⟩ = some (.int .i64 ((rd_T175 l0_2 x3_2).f0)) := (blk_cell BK106.out 0).trans rfl
                            have hcz44_1 : wc.cell? ⟨gb106, 1, none⟩ = some (.int .i64 ((rd_T175 l0_2 x3_2).f1)) := (blk_cell BK106.out 1).trans rfl
                            have hcz44_2 : wc.cell? ⟨gb106, 2, none⟩ = some (.int .i64 ((rd_T175 l0_2 x3_2).f2.f0)) := (blk_cell BK106.out 2).trans rfl
                            have hcz44_3 : wc.cell? ⟨gb106, 3, none⟩ = some (.int .i64 ((rd_T175 l0_2 x3_2).f2.f1)) := (blk_cell BK106.out 3).trans rfl
                            have hcz44_4 : wc.cell? ⟨gb106, 4, none⟩ = some (.int .i64 ((rd_T175 l0_2 x3_2).f3)) := (blk_cell BK106.out 4).trans rfl
                            have hcz44_5 : wc.cell? ⟨gb106, 5, none⟩ = some (.bool ((rd_T175 l0_2 x3_2).f4)) := (blk_cell BK106.out 5).trans rfl
                            have hfz44_0 := blk_frozen BK106.out 0
                            have hfz44_1 := blk_frozen BK106.out 1
                            have hfz44_2 := blk_frozen BK106.out 2
                            have hfz44_3 := blk_frozen BK106.out 3
                            have hfz44_4 := blk_frozen BK106.out 4
                            have hfz44_5 := blk_frozen BK106.out 5
                            go_wp2_with (first | ((with_reducible refine gate_callee (f := 103) rfl ?_); refine goesL_ (some 63) rfl rfl Try.func103 (by kernel_rfl) rfl #[.agg #[.int .i64 ((rd_T175 l0_2 x3_2).f2.f0), .int .i64 ((rd_T175 l0_2 x3_2).f2.f1)]] rfl (by (try simp only [List.map_toArray, List.map_cons, List.map_nil]); first | done | rfl | (simp only [List.length_drop, List.length_take]; rfl)) ?_; (with_reducible refine (tidewallref08_span.calls ((rd_T175 l0_2 x3_2).f2.f0) ((rd_T175 l0_2 x3_2).f2.f1) false _ A38.out).mono ?_); rintro e w45 ⟨rfl, hb⟩; refine ⟨_, rfl, ?_⟩; have n0_ := Aside0.mk (blk_below (g := gb102) (o := .cells #[.int .i64 a0_0, .int .i64 a0_1, .slice (some ad105) l0_2.length c0_2] 77 (0, 0)) (by (with_reducible repeat (first | refine blk_drewN ?_ _ | refine blk_drew ?_ | refine blk_alloc ?_ _)); exact BK102.out) hb); have n1_ := Aside0.mk (blk_below (g := gb106) (o := .cells #[.int .i64 ((rd_T175 l0_2 x3_2).f0), .int .i64 ((rd_T175 l0_2 x3_2).f1), .int .i64 ((rd_T175 l0_2 x3_2).f2.f0), .int .i64 ((rd_T175 l0_2 x3_2).f2.f1), .int .i64 ((rd_T175 l0_2 x3_2).f3), .bool ((rd_T175 l0_2 x3_2).f4)] 175 (0, 0)) (by (with_reducible repeat (first | refine blk_drewN ?_ _ | refine blk_drew ?_ | refine blk_alloc ?_ _)); exact BK106.out) hb); have n2_ := Aside0.mk (below_step (by repeat (first | (with_reducible first | exact HB.out | apply below_alloc | apply pw_below_drewN | apply below_drew1 | refine below_set ?_ GE102.out | refine below_set ?_ GE106.out) | exact HB.out)) hb); clear BK102; clear BK106; clear HB; have BK102 := n0_; have BK106 := n1_; have HB := n2_; clear n0_ n1_ n2_; (try clear hb); (try clear hb2); (try clear hk); (try clear hi)))
                            go_ret
                            exact ⟨by first | rfl | (simp [errW_none, errW_some] <;> rfl) | (simp [*, errW_none, errW_some] <;> rfl), by repeat (first | (with_reducible first | exact HB.out | apply below_alloc | apply pw_below_drewN | apply below_drew1 | refine below_set ?_ GE102.out | refine below_set ?_ GE106.out) | exact HB.out)⟩
                · rw [if_neg c14] at H
                  exact absurd H (by simp)
              · rw [if_neg c13] at H
                have c13b0 : decide (x3_2 < (l0_2.length : Int)) = false := decide_eq_false c13
                clear c13
                obtain rfl := Option.some.inj H
                have hcz46_0 : wr.cell? ⟨gb102, 0, none⟩ = some (.int .i64 a0_0) := (blk_cell BK102.out 0).trans rfl
                have hcz46_1 : wr.cell? ⟨gb102, 1, none⟩ = some (.int .i64 a0_1) := (blk_cell BK102.out 1).trans rfl
                have hcz46_2 : wr.cell? ⟨gb102, 2, none⟩ = some (.slice A0_2 l0_2.length c0_2) := (blk_cell BK102.out 2).trans rfl
                have hfz46_0 := blk_frozen BK102.out 0
                have hfz46_1 := blk_frozen BK102.out 1
                have hfz46_2 := blk_frozen BK102.out 2
                go_wp2
                go_ret
                exact ⟨by first | rfl | (simp [errW_none, errW_some] <;> rfl) | (simp [*, errW_none, errW_some] <;> rfl), by repeat (first | (with_reducible first | exact HB.out | apply below_alloc | apply pw_below_drewN | apply below_drew1 | refine below_set ?_ GE102.out) | exact HB.out)⟩
def tidewallref08_start.f (k : Nat) (a0_0 : Int) (a0_1 : Int) (l0_2 : List (S175)) (a1_0 : Int) (a1_1 : Int) (a1_2 : Int) : Option (Int) := (tidewallref08_Check.f k a0_0 a0_1 l0_2).bind fun t113 => (if t113 = 0 then ((tidewallref08_within.f a1_0 0 (wrap64 (a0_0 - 1))).bind fun t114 => (if t114 = true then ((tidewallref08_span.f a1_1 a1_2).bind fun t115 => (if t115 = true then (some 0) else (some 3))) else (some 4))) else (some t113))
set_option maxHeartbeats 8000000 in
set_option maxRecDepth 100000 in
theorem tidewallref08_start.calls (k : Nat) (a0_0 : Int) (a0_1 : Int) (A0_2 : Option Addr) (c0_2 : Nat) (l0_2 : List (S175)) (a1_0 : Int) (a1_1 : Int) (a1_2 : Int) (r : Int) (w : World) (hr0_2 : Kd.C k175 w A0_2 l0_2.length l0_2) (hc0_2 : l0_2.length ≤ c0_2) (h : tidewallref08_start.f k a0_0 a0_1 l0_2 a1_0 a1_1 a1_2 = some r) :
    Calls Try.prog 80 #[.agg #[.int .i64 a0_0, .int .i64 a0_1, .slice A0_2 l0_2.length c0_2], .agg #[.int .i64 a1_0, .int .i64 a1_1, .int .i64 a1_2]] w fun e w' => e = .returned (.int .i64 r) ∧ Below w.heap.size w w' := by
  have hu77 := Try.underlying77
  have hu79 := Try.underlying79
  have hu41 := Try.underlying41
  have HR0_2 := Aside0.mk hr0_2
  have HC0_2 := Aside0.mk hc0_2
  clear hr0_2 hc0_2
  have HB := Aside0.mk (Below.refl w.heap.size w)
  have H : ((tidewallref08_Check.f k a0_0 a0_1 l0_2).bind fun t113 => (if t113 = 0 then ((tidewallref08_within.f a1_0 0 (wrap64 (a0_0 - 1))).bind fun t114 => (if t114 = true then ((tidewallref08_span.f a1_1 a1_2).bind fun t115 => (if t115 = true then (some 0) else (some 3))) else (some 4))) else (some t113))) = some r := h
  clear h
  replace H := Option.bind_eq_some_iff.mp H
  obtain ⟨t113, A30, H⟩ := H
  replace H : (if t113 = 0 then ((tidewallref08_within.f a1_0 0 (wrap64 (a0_0 - 1))).bind fun t114 => (if t114 = true then ((tidewallref08_span.f a1_1 a1_2).bind fun t115 => (if t115 = true then (some 0) else (some 3))) else (some 4))) else (some t113)) = some r := H
  have A3 := Aside0.mk A30
  clear A30
  by_cases c4 : t113 = 0
  · rw [if_pos c4] at H
    have c4b0 : (t113 == 0) = true := beq_iff_eq.mpr c4
    have c4b1 : (t113 != 0) = false := bne_eq_false_iff_eq.mpr c4
    clear c4
    replace H := Option.bind_eq_some_iff.mp H
    obtain ⟨t114, A50, H⟩ := H
    replace H : (if t114 = true then ((tidewallref08_span.f a1_1 a1_2).bind fun t115 => (if t115 = true then (some 0) else (some 3))) else (some 4)) = some r := H
    have A5 := Aside0.mk A50
    clear A50
    by_cases c6 : t114 = true
    · subst c6
      have H1 : ((tidewallref08_span.f a1_1 a1_2).bind fun t115 => (if t115 = true then (some 0) else (some 3))) = some r := by rw [if_pos rfl] at H; exact H
      clear H
      have H := H1
      clear H1
      replace H := Option.bind_eq_some_iff.mp H
      obtain ⟨t115, A70, H⟩ := H
      replace H : (if t115 = true then (some 0) else (some 3)) = some r := H
      have A7 := Aside0.mk A70
      clear A70
      by_cases c8 : t115 = true
      · subst c8
        have H1 : (some 0) = some r := by rw [if_pos rfl] at H; exact H
        clear H
        have H := H1
        clear H1
        obtain rfl := Option.some.inj H
        go_enter Try.func80, Try.ntmps80
        go_wp2_with (first | ((with_reducible refine gate_dst (N := 2) rfl ?_); refine box_event ?hg (N := 2) ?hd (cs := #[.int .i64 a0_0, .int .i64 a0_1, .slice A0_2 l0_2.length c0_2]) (t := 77) ?hr ?_; (case hd => rfl); (case hg => rfl); (case hr => first | (go_simp; done) | (go_simp; rfl)); intro gb111 hg w9 hbox hb; have n0_ := Aside0.mk (below_step (by repeat (first | (with_reducible first | exact HB.out | apply below_alloc | apply pw_below_drewN | apply below_drew1) | exact HB.out)) hb); have n1_ := Aside0.mk (hbox); have n2_ := Aside0.mk ((by rw [hg]; exact (below_size (by repeat (first | (with_reducible first | exact HB.out | apply below_alloc | apply pw_below_drewN | apply below_drew1) | exact HB.out))) : w.heap.size ≤ gb111)); have n3_ := Aside0.mk ((by rw [hg]; exact (below_size (by repeat (first | (with_reducible first | exact HB.out | apply below_alloc | apply pw_below_drewN | apply below_drew1) | exact HB.out))) : w.heap.size ≤ gb111)); clear HB; have HB := n0_; have BK111 := n1_; have GW111 := n2_; have GE111 := n3_; clear n0_ n1_ n2_ n3_; clear hb hbox hg) | ((with_reducible refine gate_dst (N := 3) rfl ?_); refine box_event ?hg (N := 3) ?hd (cs := #[.int .i64 a1_0, .int .i64 a1_1, .int .i64 a1_2]) (t := 79) ?hr ?_; (case hd => rfl); (case hg => rfl); (case hr => first | (go_simp; done) | (go_simp; rfl)); intro gb112 hg w10 hbox hb; have n0_ := Aside0.mk (blk_below (g := gb111) (o := .cells #[.int .i64 a0_0, .int .i64 a0_1, .slice A0_2 l0_2.length c0_2] 77 (0, 0)) (by (with_reducible repeat (first | refine blk_drewN ?_ _ | refine blk_drew ?_ | refine blk_alloc ?_ _)); exact BK111.out) hb); have n1_ := Aside0.mk (below_step (by repeat (first | (with_reducible first | exact HB.out | apply below_alloc | apply pw_below_drewN | apply below_drew1 | refine below_set ?_ GE111.out) | exact HB.out)) hb); have n2_ := Aside0.mk (hbox); have n3_ := Aside0.mk ((by rw [hg]; exact (below_size (by repeat (first | (with_reducible first | exact HB.out | apply below_alloc | apply pw_below_drewN | apply below_drew1 | refine below_set ?_ GE111.out) | exact HB.out))) : w.heap.size ≤ gb112)); have n4_ := Aside0.mk ((by rw [hg]; exact (below_size (by repeat (first | (with_reducible first | exact HB.out | apply below_alloc | apply pw_below_drewN | apply below_drew1 | refine below_set ?_ GE111.out) | exact HB.out))) : w.heap.size ≤ gb112)); have n5_ := Aside0.mk ((by rw [hg]; exact Nat.ne_of_lt (blk_lt (g := gb111) (o := .cells #[.int .i64 a0_0, .int .i64 a0_1, .slice A0_2 l0_2.length c0_2] 77 (0, 0)) (by (with_reducible repeat (first | refine blk_drewN ?_ _ | refine blk_drew ?_ | refine blk_alloc ?_ _)); exact BK111.out)) : gb111 ≠ gb112)); have n6_ := Aside0.mk ((by rw [hg]; exact Nat.ne_of_gt (blk_lt (g := gb111) (o := .cells #[.int .i64 a0_0, .int .i64 a0_1, .slice A0_2 l0_2.length c0_2] 77 (0, 0)) (by (with_reducible repeat (first | refine blk_drewN ?_ _ | refine blk_drew ?_ | refine blk_alloc ?_ _)); exact BK111.out)) : gb112 ≠ gb111)); clear BK111; clear HB; have BK111 := n0_; have HB := n1_; have BK112 := n2_; have GW112 := n3_; have GE112 := n4_; have NB111_112 := n5_; have NB112_111 := n6_; clear n0_ n1_ n2_ n3_ n4_ n5_ n6_; clear hb hbox hg; have hnb11 := NB111_112.out; have hnc11 := NB112_111.out; have hcz12_0 : w10.cell? ⟨gb111, 0, none⟩ = some (.int .i64 a0_0) := (blk_cell BK111.out 0).trans rfl; have hcz12_1 : w10.cell? ⟨gb111, 1, none⟩ = some (.int .i64 a0_1) := (blk_cell BK111.out 1).trans rfl; have hcz12_2 : w10.cell? ⟨gb111, 2, none⟩ = some (.slice A0_2 l0_2.length c0_2) := (blk_cell BK111.out 2).trans rfl; have hfz12_0 := blk_frozen BK111.out 0; have hfz12_1 := blk_frozen BK111.out 1; have hfz12_2 := blk_frozen BK111.out 2) | ((with_reducible refine gate_callee (f := 46) rfl ?_); refine goesL_ (some 7) rfl rfl Try.func46 (by kernel_rfl) rfl #[.agg #[.int .i64 a0_0, .int .i64 a0_1, .slice A0_2 l0_2.length c0_2]] rfl (by (try simp only [List.map_toArray, List.map_cons, List.map_nil]); first | done | rfl | (simp only [List.length_drop, List.length_take]; rfl)) ?_; (with_reducible refine (tidewallref08_Check.calls k a0_0 a0_1 _ _ l0_2 t113 _ ?side1 ?side2 A3.out).mono ?_); (case side1 => repeat (first | exact (Kd.C_below HR0_2.out HB.out) | (with_reducible refine Kd.C_alloc ?_ _) | (with_reducible refine Kd.C_drewN ?_ _) | (with_reducible refine Kd.C_drew ?_))); (case side2 => exact HC0_2.out); rintro e w13 ⟨rfl, hb⟩; refine ⟨_, rfl, ?_⟩; have n0_ := Aside0.mk (blk_below (g := gb111) (o := .cells #[.int .i64 a0_0, .int .i64 a0_1, .slice A0_2 l0_2.length c0_2] 77 (0, 0)) (by (with_reducible repeat (first | refine blk_drewN ?_ _ | refine blk_drew ?_ | refine blk_alloc ?_ _)); exact BK111.out) hb); have n1_ := Aside0.mk (blk_below (g := gb112) (o := .cells #[.int .i64 a1_0, .int .i64 a1_1, .int .i64 a1_2] 79 (0, 0)) (by (with_reducible repeat (first | refine blk_drewN ?_ _ | refine blk_drew ?_ | refine blk_alloc ?_ _)); exact BK112.out) hb); have n2_ := Aside0.mk (below_step (by repeat (first | (with_reducible first | exact HB.out | apply below_alloc | apply pw_below_drewN | apply below_drew1 | refine below_set ?_ GE111.out | refine below_set ?_ GE112.out) | exact HB.out)) hb); clear BK111; clear BK112; clear HB; have BK111 := n0_; have BK112 := n1_; have HB := n2_; clear n0_ n1_ n2_; (try clear hb); (try clear hb2); (try clear hk); (try clear hi); have hcz14_0 : w13.cell? ⟨gb112, 0, none⟩ = some (.int .i64 a1_0) := (blk_cell BK112.out 0).trans rfl; have hcz14_1 : w13.cell? ⟨gb112, 1, none⟩ = some (.int .i64 a1_1) := (blk_cell BK112.out 1).trans rfl; have hcz14_2 : w13.cell? ⟨gb112, 2, none⟩ = some (.int .i64 a1_2) := (blk_cell BK112.out 2).trans rfl; have hfz14_0 := blk_frozen BK112.out 0; have hfz14_1 := blk_frozen BK112.out 1; have hfz14_2 := blk_frozen BK112.out 2; have hcz15_0 : w13.cell? ⟨gb111, 0, none⟩ = some (.int .i64 a0_0) := (blk_cell BK111.out 0).trans rfl; have hcz15_1 : w13.cell? ⟨gb111, 1, none⟩ = some (.int .i64 a0_1) := (blk_cell BK111.out 1).trans rfl; have hcz15_2 : w13.cell? ⟨gb111, 2, none⟩ = some (.slice A0_2 l0_2.length c0_2) := (blk_cell BK111.out 2).trans rfl; have hfz15_0 := blk_frozen BK111.out 0; have hfz15_1 := blk_frozen BK111.out 1; have hfz15_2 := blk_frozen BK111.out 2) | ((with_reducible refine gate_callee (f := 81) rfl ?_); refine goesL_ (some 16) rfl rfl Try.func81 (by kernel_rfl) rfl #[.int .i64 a1_0, .int .i64 0, .int .i64 (wrap64 (a0_0 - 1))] rfl (by (try simp only [List.map_toArray, List.map_cons, List.map_nil]); first | done | rfl | (simp only [List.length_drop, List.length_take]; rfl)) ?_; (with_reducible refine (tidewallref08_within.calls a1_0 0 (wrap64 (a0_0 - 1)) true _ A5.out).mono ?_); rintro e w' ⟨rfl, ⟨nd, rfl⟩⟩; refine ⟨_, rfl, ?_⟩) | ((with_reducible refine gate_callee (f := 103) rfl ?_); refine goesL_ (some 20) rfl rfl Try.func103 (by kernel_rfl) rfl #[.agg #[.int .i64 a1_1, .int .i64 a1_2]] rfl (by (try simp only [List.map_toArray, List.map_cons, List.map_nil]); first | done | rfl | (simp only [List.length_drop, List.length_take]; rfl)) ?_; (with_reducible refine (tidewallref08_span.calls a1_1 a1_2 true _ A7.out).mono ?_); rintro e w16 ⟨rfl, hb⟩; refine ⟨_, rfl, ?_⟩; have n0_ := Aside0.mk (blk_below (g := gb111) (o := .cells #[.int .i64 a0_0, .int .i64 a0_1, .slice A0_2 l0_2.length c0_2] 77 (0, 0)) (by (with_reducible repeat (first | refine blk_drewN ?_ _ | refine blk_drew ?_ | refine blk_alloc ?_ _)); exact BK111.out) hb); have n1_ := Aside0.mk (blk_below (g := gb112) (o := .cells #[.int .i64 a1_0, .int .i64 a1_1, .int .i64 a1_2] 79 (0, 0)) (by (with_reducible repeat (first | refine blk_drewN ?_ _ | refine blk_drew ?_ | refine blk_alloc ?_ _)); exact BK112.out) hb); have n2_ := Aside0.mk (below_step (by repeat (first | (with_reducible first | exact HB.out | apply below_alloc | apply pw_below_drewN | apply below_drew1 | refine below_set ?_ GE111.out | refine below_set ?_ GE112.out) | exact HB.out)) hb); clear BK111; clear BK112; clear HB; have BK111 := n0_; have BK112 := n1_; have HB := n2_; clear n0_ n1_ n2_; (try clear hb); (try clear hb2); (try clear hk); (try clear hi)))
        go_ret
        exact ⟨by first | rfl | (simp [errW_none, errW_some] <;> rfl) | (simp [*, errW_none, errW_some] <;> rfl), by repeat (first | (with_reducible first | exact HB.out | apply below_alloc | apply pw_below_drewN | apply below_drew1 | refine below_set ?_ GE111.out | refine below_set ?_ GE112.out) | exact HB.out)⟩
      · replace c8 := Bool.eq_false_iff.mpr c8
        subst c8
        have H1 : (some 3) = some r := by rw [if_neg (show ¬ (false = true) by decide)] at H; exact H
        clear H
        have H := H1
        clear H1
        obtain rfl := Option.some.inj H
        go_enter Try.func80, Try.ntmps80
        go_wp2_with (first | ((with_reducible refine gate_dst (N := 2) rfl ?_); refine box_event ?hg (N := 2) ?hd (cs := #[.int .i64 a0_0, .int .i64 a0_1, .slice A0_2 l0_2.length c0_2]) (t := 77) ?hr ?_; (case hd => rfl); (case hg => rfl); (case hr => first | (go_simp; done) | (go_simp; rfl)); intro gb111 hg w17 hbox hb; have n0_ := Aside0.mk (below_step (by repeat (first | (with_reducible first | exact HB.out | apply below_alloc | apply pw_below_drewN | apply below_drew1) | exact HB.out)) hb); have n1_ := Aside0.mk (hbox); have n2_ := Aside0.mk ((by rw [hg]; exact (below_size (by repeat (first | (with_reducible first | exact HB.out | apply below_alloc | apply pw_below_drewN | apply below_drew1) | exact HB.out))) : w.heap.size ≤ gb111)); have n3_ := Aside0.mk ((by rw [hg]; exact (below_size (by repeat (first | (with_reducible first | exact HB.out | apply below_alloc | apply pw_below_drewN | apply below_drew1) | exact HB.out))) : w.heap.size ≤ gb111)); clear HB; have HB := n0_; have BK111 := n1_; have GW111 := n2_; have GE111 := n3_; clear n0_ n1_ n2_ n3_; clear hb hbox hg) | ((with_reducible refine gate_dst (N := 3) rfl ?_); refine box_event ?hg (N := 3) ?hd (cs := #[.int .i64 a1_0, .int .i64 a1_1, .int .i64 a1_2]) (t := 79) ?hr ?_; (case hd => rfl); (case hg => rfl); (case hr => first | (go_simp; done) | (go_simp; rfl)); intro gb112 hg w18 hbox hb; have n0_ := Aside0.mk (blk_below (g := gb111) (o := .cells #[.int .i64 a0_0, .int .i64 a0_1, .slice A0_2 l0_2.length c0_2] 77 (0, 0)) (by (with_reducible repeat (first | refine blk_drewN ?_ _ | refine blk_drew ?_ | refine blk_alloc ?_ _)); exact BK111.out) hb); have n1_ := Aside0.mk (below_step (by repeat (first | (with_reducible first | exact HB.out | apply below_alloc | apply pw_below_drewN | apply below_drew1 | refine below_set ?_ GE111.out) | exact HB.out)) hb); have n2_ := Aside0.mk (hbox); have n3_ := Aside0.mk ((by rw [hg]; exact (below_size (by repeat (first | (with_reducible first | exact HB.out | apply below_alloc | apply pw_below_drewN | apply below_drew1 | refine below_set ?_ GE111.out) | exact HB.out))) : w.heap.size ≤ gb112)); have n4_ := Aside0.mk ((by rw [hg]; exact (below_size (by repeat (first | (with_reducible first | exact HB.out | apply below_alloc | apply pw_below_drewN | apply below_drew1 | refine below_set ?_ GE111.out) | exact HB.out))) : w.heap.size ≤ gb112)); have n5_ := Aside0.mk ((by rw [hg]; exact Nat.ne_of_lt (blk_lt (g := gb111) (o := .cells #[.int .i64 a0_0, .int .i64 a0_1, .slice A0_2 l0_2.length c0_2] 77 (0, 0)) (by (with_reducible repeat (first | refine blk_drewN ?_ _ | refine blk_drew ?_ | refine blk_alloc ?_ _)); exact BK111.out)) : gb111 ≠ gb112)); have n6_ := Aside0.mk ((by rw [hg]; exact Nat.ne_of_gt (blk_lt (g := gb111) (o := .cells #[.int .i64 a0_0, .int .i64 a0_1, .slice A0_2 l0_2.length c0_2] 77 (0, 0)) (by (with_reducible repeat (first | refine blk_drewN ?_ _ | refine blk_drew ?_ | refine blk_alloc ?_ _)); exact BK111.out)) : gb112 ≠ gb111)); clear BK111; clear HB; have BK111 := n0_; have HB := n1_; have BK112 := n2_; have GW112 := n3_; have GE112 := n4_; have NB111_112 := n5_; have NB112_111 := n6_; clear n0_ n1_ n2_ n3_ n4_ n5_ n6_; clear hb hbox hg; have hnb19 := NB111_112.out; have hnc19 := NB112_111.out; have hcz20_0 : w18.cell? ⟨gb111, 0, none⟩ = some (.int .i64 a0_0) := (blk_cell BK111.out 0).trans rfl; have hcz20_1 : w18.cell? ⟨gb111, 1, none⟩ = some (.int .i64 a0_1) := (blk_cell BK111.out 1).trans rfl; have hcz20_2 : w18.cell? ⟨gb111, 2, none⟩ = some (.slice A0_2 l0_2.length c0_2) := (blk_cell BK111.out 2).trans rfl; have hfz20_0 := blk_frozen BK111.out 0; have hfz20_1 := blk_frozen BK111.out 1; have hfz20_2 := blk_frozen BK111.out 2) | ((with_reducible refine gate_callee (f := 46) rfl ?_); refine goesL_ (some 7) rfl rfl Try.func46 (by kernel_rfl) rfl #[.agg #[.int .i64 a0_0, .int .i64 a0_1, .slice A0_2 l0_2.length c0_2]] rfl (by (try simp only [List.map_toArray, List.map_cons, List.map_nil]); first | done | rfl | (simp only [List.length_drop, List.length_take]; rfl)) ?_; (with_reducible refine (tidewallref08_Check.calls k a0_0 a0_1 _ _ l0_2 t113 _ ?side1 ?side2 A3.out).mono ?_); (case side1 => repeat (first | exact (Kd.C_below HR0_2.out HB.out) | (with_reducible refine Kd.C_alloc ?_ _) | (with_reducible refine Kd.C_drewN ?_ _) | (with_reducible refine Kd.C_drew ?_))); (case side2 => exact HC0_2.out); rintro e w21 ⟨rfl, hb⟩; refine ⟨_, rfl, ?_⟩; have n0_ := Aside0.mk (blk_below (g := gb111) (o := .cells #[.int .i64 a0_0, .int .i64 a0_1, .slice A0_2 l0_2.length c0_2] 77 (0, 0)) (by (with_reducible repeat (first | refine blk_drewN ?_ _ | refine blk_drew ?_ | refine blk_alloc ?_ _)); exact BK111.out) hb); have n1_ := Aside0.mk (blk_below (g := gb112) (o := .cells #[.int .i64 a1_0, .int .i64 a1_1, .int .i64 a1_2] 79 (0, 0)) (by (with_reducible repeat (first | refine blk_drewN ?_ _ | refine blk_drew ?_ | refine blk_alloc ?_ _)); exact BK112.out) hb); have n2_ := Aside0.mk (below_step (by repeat (first | (with_reducible first | exact HB.out | apply below_alloc | apply pw_below_drewN | apply below_drew1 | refine below_set ?_ GE111.out | refine below_set ?_ GE112.out) | exact HB.out)) hb); clear BK111; clear BK112; clear HB; have BK111 := n0_; have BK112 := n1_; have HB := n2_; clear n0_ n1_ n2_; (try clear hb); (try clear hb2); (try clear hk); (try clear hi); have hcz22_0 : w21.cell? ⟨gb112, 0, none⟩ = some (.int .i64 a1_0) := (blk_cell BK112.out 0).trans rfl; have hcz22_1 : w21.cell? ⟨gb112, 1, none⟩ = some (.int .i64 a1_1) := (blk_cell BK112.out 1).trans rfl; have hcz22_2 : w21.cell? ⟨gb112, 2, none⟩ = some (.int .i64 a1_2) := (blk_cell BK112.out 2).trans rfl; have hfz22_0 := blk_frozen BK112.out 0; have hfz22_1 := blk_frozen BK112.out 1; have hfz22_2 := blk_frozen BK112.out 2; have hcz23_0 : w21.cell? ⟨gb111, 0, none⟩ = some (.int .i64 a0_0) := (blk_cell BK111.out 0).trans rfl; have hcz23_1 : w21.cell? ⟨gb111, 1, none⟩ = some (.int .i64 a0_1) := (blk_cell BK111.out 1).trans rfl; have hcz23_2 : w21.cell? ⟨gb111, 2, none⟩ = some (.slice A0_2 l0_2.length c0_2) := (blk_cell BK111.out 2).trans rfl; have hfz23_0 := blk_frozen BK111.out 0; have hfz23_1 := blk_frozen BK111.out 1; have hfz23_2 := blk_frozen BK111.out 2) | ((with_reducible refine gate_callee (f := 81) rfl ?_); refine goesL_ (some 16) rfl rfl Try.func81 (by kernel_rfl) rfl #[.int .i64 a1_0, .int .i64 0, .int .i64 (wrap64 (a0_0 - 1))] rfl (by (try simp only [List.map_toArray, List.map_cons, List.map_nil]); first | done | rfl | (simp only [List.length_drop, List.length_take]; rfl)) ?_; (with_reducible refine (tidewallref08_within.calls a1_0 0 (wrap64 (a0_0 - 1)) true _ A5.out).mono ?_); rintro e w' ⟨rfl, ⟨nd, rfl⟩⟩; refine ⟨_, rfl, ?_⟩) | ((with_reducible refine gate_callee (f := 103) rfl ?_); refine goesL_ (some 20) rfl rfl Try.func103 (by kernel_rfl) rfl #[.agg #[.int .i64 a1_1, .int .i64 a1_2]] rfl (by (try simp only [List.map_toArray, List.map_cons, List.map_nil]); first | done | rfl | (simp only [List.length_drop, List.length_take]; rfl)) ?_; (with_reducible refine (tidewallref08_span.calls a1_1 a1_2 false _ A7.out).mono ?_); rintro e w24 ⟨rfl, hb⟩; refine ⟨_, rfl, ?_⟩; have n0_ := Aside0.mk (blk_below (g := gb111) (o := .cells #[.int .i64 a0_0, .int .i64 a0_1, .slice A0_2 l0_2.length c0_2] 77 (0, 0)) (by (with_reducible repeat (first | refine blk_drewN ?_ _ | refine blk_drew ?_ | refine blk_alloc ?_ _)); exact BK111.out) hb); have n1_ := Aside0.mk (blk_below (g := gb112) (o := .cells #[.int .i64 a1_0, .int .i64 a1_1, .int .i64 a1_2] 79 (0, 0)) (by (with_reducible repeat (first | refine blk_drewN ?_ _ | refine blk_drew ?_ | refine blk_alloc ?_ _)); exact BK112.out) hb); have n2_ := Aside0.mk (below_step (by repeat (first | (with_reducible first | exact HB.out | apply below_alloc | apply pw_below_drewN | apply below_drew1 | refine below_set ?_ GE111.out | refine below_set ?_ GE112.out) | exact HB.out)) hb); clear BK111; clear BK112; clear HB; have BK111 := n0_; have BK112 := n1_; have HB := n2_; clear n0_ n1_ n2_; (try clear hb); (try clear hb2); (try clear hk); (try clear hi)))
        go_ret
        exact ⟨by first | rfl | (simp [errW_none, errW_some] <;> rfl) | (simp [*, errW_none, errW_some] <;> rfl), by repeat (first | (with_reducible first | exact HB.out | apply below_alloc | apply pw_below_drewN | apply below_drew1 | refine below_set ?_ GE111.out | refine below_set ?_ GE112.out) | exact HB.out)⟩
    · replace c6 := Bool.eq_false_iff.mpr c6
      subst c6
      have H1 : (some 4) = some r := by rw [if_neg (show ¬ (false = true) by decide)] at H; exact H
      clear H
      have H := H1
      clear H1
      obtain rfl := Option.some.inj H
      go_enter Try.func80, Try.ntmps80
      go_wp2_with (first | ((with_reducible refine gate_dst (N := 2) rfl ?_); refine box_event ?hg (N := 2) ?hd (cs := #[.int .i64 a0_0, .int .i64 a0_1, .slice A0_2 l0_2.length c0_2]) (t := 77) ?hr ?_; (case hd => rfl); (case hg => rfl); (case hr => first | (go_simp; done) | (go_simp; rfl)); intro gb111 hg w25 hbox hb; have n0_ := Aside0.mk (below_step (by repeat (first | (with_reducible first | exact HB.out | apply below_alloc | apply pw_below_drewN | apply below_drew1) | exact HB.out)) hb); have n1_ := Aside0.mk (hbox); have n2_ := Aside0.mk ((by rw [hg]; exact (below_size (by repeat (first | (with_reducible first | exact HB.out | apply below_alloc | apply pw_below_drewN | apply below_drew1) | exact HB.out))) : w.heap.size ≤ gb111)); have n3_ := Aside0.mk ((by rw [hg]; exact (below_size (by repeat (first | (with_reducible first | exact HB.out | apply below_alloc | apply pw_below_drewN | apply below_drew1) | exact HB.out))) : w.heap.size ≤ gb111)); clear HB; have HB := n0_; have BK111 := n1_; have GW111 := n2_; have GE111 := n3_; clear n0_ n1_ n2_ n3_; clear hb hbox hg) | ((with_reducible refine gate_dst (N := 3) rfl ?_); refine box_event ?hg (N := 3) ?hd (cs := #[.int .i64 a1_0, .int .i64 a1_1, .int .i64 a1_2]) (t := 79) ?hr ?_; (case hd => rfl); (case hg => rfl); (case hr => first | (go_simp; done) | (go_simp; rfl)); intro gb112 hg w26 hbox hb; have n0_ := Aside0.mk (blk_below (g := gb111) (o := .cells #[.int .i64 a0_0, .int .i64 a0_1, .slice A0_2 l0_2.length c0_2] 77 (0, 0)) (by (with_reducible repeat (first | refine blk_drewN ?_ _ | refine blk_drew ?_ | refine blk_alloc ?_ _)); exact BK111.out) hb); have n1_ := Aside0.mk (below_step (by repeat (first | (with_reducible first | exact HB.out | apply below_alloc | apply pw_below_drewN | apply below_drew1 | refine below_set ?_ GE111.out) | exact HB.out)) hb); have n2_ := Aside0.mk (hbox); have n3_ := Aside0.mk ((by rw [hg]; exact (below_size (by repeat (first | (with_reducible first | exact HB.out | apply below_alloc | apply pw_below_drewN | apply below_drew1 | refine below_set ?_ GE111.out) | exact HB.out))) : w.heap.size ≤ gb112)); have n4_ := Aside0.mk ((by rw [hg]; exact (below_size (by repeat (first | (with_reducible first | exact HB.out | apply below_alloc | apply pw_below_drewN | apply below_drew1 | refine below_set ?_ GE111.out) | exact HB.out))) : w.heap.size ≤ gb112)); have n5_ := Aside0.mk ((by rw [hg]; exact Nat.ne_of_lt (blk_lt (g := gb111) (o := .cells #[.int .i64 a0_0, .int .i64 a0_1, .slice A0_2 l0_2.length c0_2] 77 (0, 0)) (by (with_reducible repeat (first | refine blk_drewN ?_ _ | refine blk_drew ?_ | refine blk_alloc ?_ _)); exact BK111.out)) : gb111 ≠ gb112)); have n6_ := Aside0.mk ((by rw [hg]; exact Nat.ne_of_gt (blk_lt (g := gb111) (o := .cells #[.int .i64 a0_0, .int .i64 a0_1, .slice A0_2 l0_2.length c0_2] 77 (0, 0)) (by (with_reducible repeat (first | refine blk_drewN ?_ _ | refine blk_drew ?_ | refine blk_alloc ?_ _)); exact BK111.out)) : gb112 ≠ gb111)); clear BK111; clear HB; have BK111 := n0_; have HB := n1_; have BK112 := n2_; have GW112 := n3_; have GE112 := n4_; have NB111_112 := n5_; have NB112_111 := n6_; clear n0_ n1_ n2_ n3_ n4_ n5_ n6_; clear hb hbox hg; have hnb27 := NB111_112.out; have hnc27 := NB112_111.out; have hcz28_0 : w26.cell? ⟨gb111, 0, none⟩ = some (.int .i64 a0_0) := (blk_cell BK111.out 0).trans rfl; have hcz28_1 : w26.cell? ⟨gb111, 1, none⟩ = some (.int .i64 a0_1) := (blk_cell BK111.out 1).trans rfl; have hcz28_2 : w26.cell? ⟨gb111, 2, none⟩ = some (.slice A0_2 l0_2.length c0_2) := (blk_cell BK111.out 2).trans rfl; have hfz28_0 := blk_frozen BK111.out 0; have hfz28_1 := blk_frozen BK111.out 1; have hfz28_2 := blk_frozen BK111.out 2) | ((with_reducible refine gate_callee (f := 46) rfl ?_); refine goesL_ (some 7) rfl rfl Try.func46 (by kernel_rfl) rfl #[.agg #[.int .i64 a0_0, .int .i64 a0_1, .slice A0_2 l0_2.length c0_2]] rfl (by (try simp only [List.map_toArray, List.map_cons, List.map_nil]); first | done | rfl | (simp only [List.length_drop, List.length_take]; rfl)) ?_; (with_reducible refine (tidewallref08_Check.calls k a0_0 a0_1 _ _ l0_2 t113 _ ?side1 ?side2 A3.out).mono ?_); (case side1 => repeat (first | exact (Kd.C_below HR0_2.out HB.out) | (with_reducible refine Kd.C_alloc ?_ _) | (with_reducible refine Kd.C_drewN ?_ _) | (with_reducible refine Kd.C_drew ?_))); (case side2 => exact HC0_2.out); rintro e w29 ⟨rfl, hb⟩; refine ⟨_, rfl, ?_⟩; have n0_ := Aside0.mk (blk_below (g := gb111) (o := .cells #[.int .i64 a0_0, .int .i64 a0_1, .slice A0_2 l0_2.length c0_2] 77 (0, 0)) (by (with_reducible repeat (first | refine blk_drewN ?_ _ | refine blk_drew ?_ | refine blk_alloc ?_ _)); exact BK111.out) hb); have n1_ := Aside0.mk (blk_below (g := gb112) (o := .cells #[.int .i64 a1_0, .int .i64 a1_1, .int .i64 a1_2] 79 (0, 0)) (by (with_reducible repeat (first | refine blk_drewN ?_ _ | refine blk_drew ?_ | refine blk_alloc ?_ _)); exact BK112.out) hb); have n2_ := Aside0.mk (below_step (by repeat (first | (with_reducible first | exact HB.out | apply below_alloc | apply pw_below_drewN | apply below_drew1 | refine below_set ?_ GE111.out | refine below_set ?_ GE112.out) | exact HB.out)) hb); clear BK111; clear BK112; clear HB; have BK111 := n0_; have BK112 := n1_; have HB := n2_; clear n0_ n1_ n2_; (try clear hb); (try clear hb2); (try clear hk); (try clear hi); have hcz30_0 : w29.cell? ⟨gb112, 0, none⟩ = some (.int .i64 a1_0) := (blk_cell BK112.out 0).trans rfl; have hcz30_1 : w29.cell? ⟨gb112, 1, none⟩ = some (.int .i64 a1_1) := (blk_cell BK112.out 1).trans rfl; have hcz30_2 : w29.cell? ⟨gb112, 2, none⟩ = some (.int .i64 a1_2) := (blk_cell BK112.out 2).trans rfl; have hfz30_0 := blk_frozen BK112.out 0; have hfz30_1 := blk_frozen BK112.out 1; have hfz30_2 := blk_frozen BK112.out 2; have hcz31_0 : w29.cell? ⟨gb111, 0, none⟩ = some (.int .i64 a0_0) := (blk_cell BK111.out 0).trans rfl; have hcz31_1 : w29.cell? ⟨gb111, 1, none⟩ = some (.int .i64 a0_1) := (blk_cell BK111.out 1).trans rfl; have hcz31_2 : w29.cell? ⟨gb111, 2, none⟩ = some (.slice A0_2 l0_2.length c0_2) := (blk_cell BK111.out 2).trans rfl; have hfz31_0 := blk_frozen BK111.out 0; have hfz31_1 := blk_frozen BK111.out 1; have hfz31_2 := blk_frozen BK111.out 2) | ((with_reducible refine gate_callee (f := 81) rfl ?_); refine goesL_ (some 16) rfl rfl Try.func81 (by kernel_rfl) rfl #[.int .i64 a1_0, .int .i64 0, .int .i64 (wrap64 (a0_0 - 1))] rfl (by (try simp only [List.map_toArray, List.map_cons, List.map_nil]); first | done | rfl | (simp only [List.length_drop, List.length_take]; rfl)) ?_; (with_reducible refine (tidewallref08_within.calls a1_0 0 (wrap64 (a0_0 - 1)) false _ A5.out).mono ?_); rintro e w' ⟨rfl, ⟨nd, rfl⟩⟩; refine ⟨_, rfl, ?_⟩))
      go_ret
      exact ⟨by first | rfl | (simp [errW_none, errW_some] <;> rfl) | (simp [*, errW_none, errW_some] <;> rfl), by repeat (first | (with_reducible first | exact HB.out | apply below_alloc | apply pw_below_drewN | apply below_drew1 | refine below_set ?_ GE111.out | refine below_set ?_ GE112.out) | exact HB.out)⟩
  · rw [if_neg c4] at H
    have c4b0 : (t113 == 0) = false := beq_eq_false_iff_ne.mpr c4
    have c4b1 : (t113 != 0) = true := bne_iff_ne.mpr c4
    obtain rfl := Option.some.inj H
    go_enter Try.func80, Try.ntmps80
    go_wp2_with (first | ((with_reducible refine gate_dst (N := 2) rfl ?_); refine box_event ?hg (N := 2) ?hd (cs := #[.int .i64 a0_0, .int .i64 a0_1, .slice A0_2 l0_2.length c0_2]) (t := 77) ?hr ?_; (case hd => rfl); (case hg => rfl); (case hr => first | (go_simp; done) | (go_simp; rfl)); intro gb111 hg w32 hbox hb; have n0_ := Aside0.mk (below_step (by repeat (first | (with_reducible first | exact HB.out | apply below_alloc | apply pw_below_drewN | apply below_drew1) | exact HB.out)) hb); have n1_ := Aside0.mk (hbox); have n2_ := Aside0.mk ((by rw [hg]; exact (below_size (by repeat (first | (with_reducible first | exact HB.out | apply below_alloc | apply pw_below_drewN | apply below_drew1) | exact HB.out))) : w.heap.size ≤ gb111)); have n3_ := Aside0.mk ((by rw [hg]; exact (below_size (by repeat (first | (with_reducible first | exact HB.out | apply below_alloc | apply pw_below_drewN | apply below_drew1) | exact HB.out))) : w.heap.size ≤ gb111)); clear HB; have HB := n0_; have BK111 := n1_; have GW111 := n2_; have GE111 := n3_; clear n0_ n1_ n2_ n3_; clear hb hbox hg) | ((with_reducible refine gate_dst (N := 3) rfl ?_); refine box_event ?hg (N := 3) ?hd (cs := #[.int .i64 a1_0, .int .i64 a1_1, .int .i64 a1_2]) (t := 79) ?hr ?_; (case hd => rfl); (case hg => rfl); (case hr => first | (go_simp; done) | (go_simp; rfl)); intro gb112 hg w33 hbox hb; have n0_ := Aside0.mk (blk_below (g := gb111) (o := .cells #[.int .i64 a0_0, .int .i64 a0_1, .slice A0_2 l0_2.length c0_2] 77 (0, 0)) (by (with_reducible repeat (first | refine blk_drewN ?_ _ | refine blk_drew ?_ | refine blk_alloc ?_ _)); exact BK111.out) hb); have n1_ := Aside0.mk (below_step (by repeat (first | (with_reducible first | exact HB.out | apply below_alloc | apply pw_below_drewN | apply below_drew1 | refine below_set ?_ GE111.out) | exact HB.out)) hb); have n2_ := Aside0.mk (hbox); have n3_ := Aside0.mk ((by rw [hg]; exact (below_size (by repeat (first | (with_reducible first | exact HB.out | apply below_alloc | apply pw_below_drewN | apply below_drew1 | refine below_set ?_ GE111.out) | exact HB.out))) : w.heap.size ≤ gb112)); have n4_ := Aside0.mk ((by rw [hg]; exact (below_size (by repeat (first | (with_reducible first | exact HB.out | apply below_alloc | apply pw_below_drewN | apply below_drew1 | refine below_set ?_ GE111.out) | exact HB.out))) : w.heap.size ≤ gb112)); have n5_ := Aside0.mk ((by rw [hg]; exact Nat.ne_of_lt (blk_lt (g := gb111) (o := .cells #[.int .i64 a0_0, .int .i64 a0_1, .slice A0_2 l0_2.length c0_2] 77 (0, 0)) (by (with_reducible repeat (first | refine blk_drewN ?_ _ | refine blk_drew ?_ | refine blk_alloc ?_ _)); exact BK111.out)) : gb111 ≠ gb112)); have n6_ := Aside0.mk ((by rw [hg]; exact Nat.ne_of_gt (blk_lt (g := gb111) (o := .cells #[.int .i64 a0_0, .int .i64 a0_1, .slice A0_2 l0_2.length c0_2] 77 (0, 0)) (by (with_reducible repeat (first | refine blk_drewN ?_ _ | refine blk_drew ?_ | refine blk_alloc ?_ _)); exact BK111.out)) : gb112 ≠ gb111)); clear BK111; clear HB; have BK111 := n0_; have HB := n1_; have BK112 := n2_; have GW112 := n3_; have GE112 := n4_; have NB111_112 := n5_; have NB112_111 := n6_; clear n0_ n1_ n2_ n3_ n4_ n5_ n6_; clear hb hbox hg; have hnb34 := NB111_112.out; have hnc34 := NB112_111.out; have hcz35_0 : w33.cell? ⟨gb111, 0, none⟩ = some (.int .i64 a0_0) := (blk_cell BK111.out 0).trans rfl; have hcz35_1 : w33.cell? ⟨gb111, 1, none⟩ = some (.int .i64 a0_1) := (blk_cell BK111.out 1).trans rfl; have hcz35_2 : w33.cell? ⟨gb111, 2, none⟩ = some (.slice A0_2 l0_2.length c0_2) := (blk_cell BK111.out 2).trans rfl; have hfz35_0 := blk_frozen BK111.out 0; have hfz35_1 := blk_frozen BK111.out 1; have hfz35_2 := blk_frozen BK111.out 2) | ((with_reducible refine gate_callee (f := 46) rfl ?_); refine goesL_ (some 7) rfl rfl Try.func46 (by kernel_rfl) rfl #[.agg #[.int .i64 a0_0, .int .i64 a0_1, .slice A0_2 l0_2.length c0_2]] rfl (by (try simp only [List.map_toArray, List.map_cons, List.map_nil]); first | done | rfl | (simp only [List.length_drop, List.length_take]; rfl)) ?_; (with_reducible refine (tidewallref08_Check.calls k a0_0 a0_1 _ _ l0_2 t113 _ ?side1 ?side2 A3.out).mono ?_); (case side1 => repeat (first | exact (Kd.C_below HR0_2.out HB.out) | (with_reducible refine Kd.C_alloc ?_ _) | (with_reducible refine Kd.C_drewN ?_ _) | (with_reducible refine Kd.C_drew ?_))); (case side2 => exact HC0_2.out); rintro e w36 ⟨rfl, hb⟩; refine ⟨_, rfl, ?_⟩; have n0_ := Aside0.mk (blk_below (g := gb111) (o := .cells #[.int .i64 a0_0, .int .i64 a0_1, .slice A0_2 l0_2.length c0_2] 77 (0, 0)) (by (with_reducible repeat (first | refine blk_drewN ?_ _ | refine blk_drew ?_ | refine blk_alloc ?_ _)); exact BK111.out) hb); have n1_ := Aside0.mk (blk_below (g := gb112) (o := .cells #[.int .i64 a1_0, .int .i64 a1_1, .int .i64 a1_2] 79 (0, 0)) (by (with_reducible repeat (first | refine blk_drewN ?_ _ | refine blk_drew ?_ | refine blk_alloc ?_ _)); exact BK112.out) hb); have n2_ := Aside0.mk (below_step (by repeat (first | (with_reducible first | exact HB.out | apply below_alloc | apply pw_below_drewN | apply below_drew1 | refine below_set ?_ GE111.out | refine below_set ?_ GE112.out) | exact HB.out)) hb); clear BK111; clear BK112; clear HB; have BK111 := n0_; have BK112 := n1_; have HB := n2_; clear n0_ n1_ n2_; (try clear hb); (try clear hb2); (try clear hk); (try clear hi)))
    go_ret
    exact ⟨by first | rfl | (simp [errW_none, errW_some] <;> rfl) | (simp [*, errW_none, errW_some] <;> rfl), by repeat (first | (with_reducible first | exact HB.out | apply below_alloc | apply pw_below_drewN | apply below_drew1 | refine below_set ?_ GE111.out | refine below_set ?_ GE112.out) | exact HB.out)⟩
end Go.Proofs.Ytgmglpnoppcnkaa.PR
end
