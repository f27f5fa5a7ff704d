/- weave: a network with the links from each node. -/
import Derived.Test.YtgmglpnoppcnkaaH3
import Derived.Test.YtgmglpnoppcnkaaV3
import Derived.Test.YtgmglpnoppcnkaaM1
namespace Go.Proofs.Ytgmglpnoppcnkaa
open Go.RowKit Go.Proofs.YtgmglpnoppcnkaaW.PrintWords Go.Proofs.YtgmglpnoppcnkaaW.PrintLast Go.Proofs.YtgmglpnoppcnkaaW.PrintMore
set_option linter.unusedVariables false
set_option linter.unusedSimpArgs false
set_option maxRecDepth 100000

def linksCs : List Lk → List Value
  | [] => []
  | l :: r => (linkCs l).toList ++ linksCs r
theorem linkCs_length (l : Lk) : (linkCs l).toList.length = 6 := rfl
theorem linksCs_length (ls : List Lk) : (linksCs ls).length = ls.length * 6 := by
  induction ls with
  | nil => rfl
  | cons l r ih => rw [linksCs, List.length_append, ih, linkCs_length, List.length_cons]; omega
theorem linksCs_append (a b : List Lk) : linksCs (a ++ b) = linksCs a ++ linksCs b := by
  induction a with
  | nil => rfl
  | cons l r ih => simp [linksCs, ih]
theorem linksCs_get (ls : List Lk) (i j : Nat) (hi : i < ls.length) (hj : j < 6) : (linksCs ls)[i * 6 + j]? = (linkCs ls[i]).toList[j]? := by
  induction ls generalizing i with
  | nil => simp at hi
  | cons l r ih =>
    cases i with
    | zero => rw [linksCs, List.getElem?_append_left (by rw [linkCs_length]; omega)]; simp
    | succ i =>
      rw [linksCs, List.getElem?_append_right (by rw [linkCs_length]; omega), linkCs_length, show (i + 1) * 6 + j - 6 = i * 6 + j by omega]
      exact ih i (by simpa using hi)
/-- The links from a node. -/
def grp (ls : List Lk) (k : Int) : List Lk := ls.filter (fun l => decide (l.f0 = k))
theorem grp_snoc (ls : List Lk) (l : Lk) (k : Int) : grp (ls ++ [l]) k = if l.f0 = k then grp ls k ++ [l] else grp ls k := by
  unfold grp
  rw [List.filter_append]
  by_cases h : l.f0 = k <;> simp [h]
theorem grp_len (ls : List Lk) (k : Int) : (grp ls k).length ≤ ls.length := List.length_filter_le ..
def rowV (L : List Ent) (k : Int) : Value := (lookL L k).getD (.slice none 0 0)
/-- The rows of links, by the nodes. -/
structure Groups (w : World) (B m : Nat) (L : List Ent) (c : Nat) (ls : List Lk) : Prop where
  map : MapAt w m L c
  own : ∀ k, w.ownsRow B 88 6 (rowV L k) (grp ls k).length (linksCs (grp ls k))
  ne : ∀ k k', k ≠ k' → ∀ b, (rowV L k).ownBlock = some b → (rowV L k').ownBlock ≠ some b
theorem Groups.below {w W : World} {B m : Nat} {L : List Ent} {c : Nat} {ls : List Lk} (h : Groups w B m L c ls) (hb : Below w.heap.size w W) : Groups W B m L c ls :=
  ⟨(hb.block m (blk_lt h.map)).trans h.map, fun k => own_move (h.own k) (fun i hi => hb.block i (own_lt (h.own k) i hi)), h.ne⟩
theorem Groups.kp {w W : World} {B m : Nat} {L : List Ent} {c : Nat} {ls : List Lk} {S : Nat → Prop} (h : Groups w B m L c ls) (hk : Kp w W S) (h1 : ¬ S m) (h2 : ∀ k i, (rowV L k).ownBlock = some i → ¬ S i) : Groups W B m L c ls :=
  ⟨(hk.block m (blk_lt h.map) h1).trans h.map, fun k => own_move (h.own k) (fun i hi => hk.block i (own_lt (h.own k) i hi) (h2 k i hi)), h.ne⟩

theorem hu196 : Try.prog.underlying 196 = some (.map 3 30) := by kernel_rfl
theorem zero30 (w : World) : (zeroValue 30).run Try.prog w = .ok (.slice none 0 0) w := by
  rfl
theorem info88 : (Try.prog.info? 88).map (fun i => (i.zero, i.size, i.bytes)) = some (some (.agg #[.int .i64 0, .int .i64 0, .int .i64 0, .int .i64 0, .int .i64 0, .bool false]), 6, 48) := by kernel_rfl

/-- A web: the network, the start, and the map of the rows of links by the nodes. -/
def WebAt (w : World) (B wp : Nat) (nn uu : Int) (sv : Value) (sn lo hi : Int) (ls : List Lk) : Prop :=
  B ≤ wp ∧ ∃ m L c, w.heap[wp]? = some (.cells #[.int .i64 nn, .int .i64 uu, sv, .int .i64 sn, .int .i64 lo, .int .i64 hi, .map (some m)] 198 (0, 0)) ∧ B ≤ m ∧ Groups w B m L c ls
/-- At the head of weave's loop. -/
structure WInv (w : World) (wp m : Nat) (nn uu : Int) (sv : Value) (sn lo hi : Int) (ls : List Lk) (i : Nat) (wr : World) : Prop where
  web : wr.heap[wp]? = some (.cells #[.int .i64 nn, .int .i64 uu, sv, .int .i64 sn, .int .i64 lo, .int .i64 hi, .map (some m)] 198 (0, 0))
  rows : ∃ L c, Groups wr w.heap.size m L c (ls.take i)
  kp : Below w.heap.size w wr
  wpge : w.heap.size ≤ wp
  mge : w.heap.size ≤ m
theorem WInv.keep {w wr W : World} {wp m : Nat} {nn uu : Int} {sv : Value} {sn lo hi : Int} {ls : List Lk} {i : Nat} (h : WInv w wp m nn uu sv sn lo hi ls i wr) (hb : Below wr.heap.size wr W) : WInv w wp m nn uu sv sn lo hi ls i W := by
  obtain ⟨h1, ⟨L, c, h2⟩, h3, h4, h5⟩ := h
  exact ⟨blk_below h1 hb, ⟨L, c, h2.below hb⟩, below_step h3 hb, h4, h5⟩
theorem groups_nil {w : World} {B m : Nat} (h : w.heap[m]? = some (.map #[] 0)) : Groups w B m [] 0 [] := by
  refine ⟨h, fun k => ⟨rfl, .inl ⟨rfl, rfl⟩⟩, fun k k' _ b hb => ?_⟩
  simp [rowV, lookL, Value.ownBlock] at hb

/-- What weave leaves. -/
def WeavePost (w : World) (nn uu : Int) (sv : Value) (ls : List Lk) (sn lo hi : Int) (e : Ending) (w' : World) : Prop :=
  Below w.heap.size w w' ∧
  ((startE nn uu ls sn lo hi ≠ 0 ∧ e = .returned (.tuple #[.pointer none, .int .i64 (startE nn uu ls sn lo hi)])) ∨
   (startE nn uu ls sn lo hi = 0 ∧ ∃ wp, e = .returned (.tuple #[.pointer (some ⟨wp, 0, none⟩), .int .i64 0]) ∧ WebAt w' w.heap.size wp nn uu sv sn lo hi ls))

/-- The cells that the region of a round reads. -/
def WSees (wp m lb : Nat) (l : Lk) (W : World) : Prop :=
  W.cell? ⟨wp, 6, none⟩ = some (.map (some m)) ∧ W.cell? ⟨lb, 0, none⟩ = some (.int .i64 l.f0) ∧ W.cell? ⟨lb, 1, none⟩ = some (.int .i64 l.f1) ∧ W.cell? ⟨lb, 2, none⟩ = some (.int .i64 l.f2.f0) ∧ W.cell? ⟨lb, 3, none⟩ = some (.int .i64 l.f2.f1) ∧ W.cell? ⟨lb, 4, none⟩ = some (.int .i64 l.f3) ∧ W.cell? ⟨lb, 5, none⟩ = some (.bool l.f4)
theorem wsees {wp m lb : Nat} {l : Lk} {W : World} {nn uu : Int} {sv : Value} {sn lo hi : Int} (h1 : W.heap[wp]? = some (.cells #[.int .i64 nn, .int .i64 uu, sv, .int .i64 sn, .int .i64 lo, .int .i64 hi, .map (some m)] 198 (0, 0))) (h2 : W.heap[lb]? = some (.cells (linkCs l) 88 (0, 0))) : WSees wp m lb l W :=
  ⟨blk_cell h1 6, blk_cell h2 0, blk_cell h2 1, blk_cell h2 2, blk_cell h2 3, blk_cell h2 4, blk_cell h2 5⟩
theorem take_snoc (ls : List Lk) (i : Nat) (h : i < ls.length) : ls.take (i + 1) = ls.take i ++ [ls[i]] := by
  rw [List.take_add_one, List.getElem?_eq_getElem h]; rfl
/-- Behind the append and the store of a round. -/
theorem weave_step {w wr A w2 : World} {wp m lb g cap : Nat} {nn uu : Int} {sv : Value} {sn lo hi : Int} {ls : List Lk} {i : Nat} {l : Lk} {L : List Ent} {c : Nat} (hi0 : i < ls.length) (hl : l = ls[i])
    (hweb : A.heap[wp]? = some (.cells #[.int .i64 nn, .int .i64 uu, sv, .int .i64 sn, .int .i64 lo, .int .i64 hi, .map (some m)] 198 (0, 0))) (hlb : A.heap[lb]? = some (.cells (linkCs l) 88 (0, 0)))
    (hlb2 : ∀ k, (rowV L k).ownBlock ≠ some lb)
    (hG : Groups A w.heap.size m L c (ls.take i)) (hk : Below w.heap.size w A) (hwp : w.heap.size ≤ wp) (hm : w.heap.size ≤ m)
    (ho : w2.ownsRow w.heap.size 88 6 (.slice (some ⟨g, 0, none⟩) ((grp (ls.take i) l.f0).length + 1) cap) ((grp (ls.take i) l.f0).length + 1) (linksCs (grp (ls.take i) l.f0) ++ (linkCs l).toList))
    (hg : A.grownBy w2 (rowV L l.f0).ownBlock) (hor : (rowV L l.f0).ownBlock = some g ∨ g = A.heap.size) (hlt : g < w2.heap.size) :
    ∃ w3, (Instr.mapUpdate 196 (.map (some m)) (.int .i64 l.f0) (.slice (some ⟨g, 0, none⟩) ((grp (ls.take i) l.f0).length + 1) cap)).run Try.prog w2 = .ok () w3 ∧ WSees wp m lb l w2 ∧ WSees wp m lb l w3 ∧ WInv w wp m nn uu sv sn lo hi ls (i + 1) w3 := by
  have hmA := hG.map
  have hmne : ∀ k, (rowV L k).ownBlock ≠ some m := fun k e => by
    obtain ⟨cells, hc⟩ := own_typed (hG.own k) m e
    rw [hmA] at hc
    simp at hc
  have hweb2 : w2.heap[wp]? = some (.cells #[.int .i64 nn, .int .i64 uu, sv, .int .i64 sn, .int .i64 lo, .int .i64 hi, .map (some m)] 198 (0, 0)) := blk_grown hweb hg (fun e => own_ne hweb (hG.own l.f0) (by decide) e.symm)
  have hlbg : w2.heap[lb]? = some (.cells (linkCs l) 88 (0, 0)) := blk_grown hlb hg (fun e => hlb2 l.f0 e.symm)
  have hm2 : MapAt w2 m L c := (hg.block m (blk_lt hmA) (fun e => hmne l.f0 e.symm)).trans hmA
  obtain ⟨c', hst⟩ := run_store w2 196 30 hu196 m L c hm2 l.f0 (.slice (some ⟨g, 0, none⟩) ((grp (ls.take i) l.f0).length + 1) cap)
  obtain ⟨w3, hw3⟩ : ∃ w3, w3 = { w2 with heap := w2.heap.setIfInBounds m (.map ((putL L c l.f0 (.slice (some ⟨g, 0, none⟩) ((grp (ls.take i) l.f0).length + 1) cap)).map mkE).toArray c') } := ⟨_, rfl⟩
  rw [← hw3] at hst
  have hfar : ∀ k, k ≠ m → w3.heap[k]? = w2.heap[k]? := fun k hk => by rw [hw3]; simp [Array.getElem?_setIfInBounds, Ne.symm hk]
  have hwpm : wp ≠ m := fun e => by rw [e, hmA] at hweb; simp at hweb
  have hlbm : lb ≠ m := fun e => by rw [e, hmA] at hlb; simp at hlb
  have hweb3 := (hfar wp hwpm).trans hweb2
  have hlb3 := (hfar lb hlbm).trans hlbg
  have hsz : w3.heap.size = w2.heap.size := by rw [hw3]; simp
  refine ⟨w3, hst, wsees hweb2 hlbg, wsees hweb3 hlb3, hweb3, ⟨putL L c l.f0 (.slice (some ⟨g, 0, none⟩) ((grp (ls.take i) l.f0).length + 1) cap), c', ?_, ?_, ?_⟩, ?_, hwp, hm⟩
  · show w3.heap[m]? = _
    rw [hw3]
    simp [Array.getElem?_setIfInBounds, blk_lt hm2]
  · intro k
    have hgm : g ≠ m := fun e => by
      rcases hor with h | h
      · exact hmne _ (by rw [h, e])
      · have := blk_lt hmA; omega
    rw [take_snoc ls i hi0, ← hl, grp_snoc]
    unfold rowV
    rw [lookL_put]
    by_cases hkk : k = l.f0
    · subst hkk
      rw [if_pos rfl, if_pos rfl, Option.getD_some, linksCs_append, List.length_append]
      refine own_move ?_ (fun q hq => ?_) (w := w2)
      · simpa [linksCs] using ho
      · have : g = q := by simpa [Value.ownBlock] using hq
        subst this
        exact hfar g hgm
    · rw [if_neg hkk, if_neg (fun e => hkk e.symm)]
      refine own_move (hG.own k) (fun q hq => ?_)
      have hqm : q ≠ m := fun e => hmne k (by rw [← e]; exact hq)
      rw [hfar q hqm]
      exact hg.block q (own_lt (hG.own k) q hq) (fun e => hG.ne k l.f0 hkk q hq e.symm)
  · intro k k' hkk b hb
    unfold rowV at hb ⊢
    rw [lookL_put] at hb ⊢
    by_cases h1 : k = l.f0
    · rw [if_pos h1] at hb
      rw [if_neg (fun e => hkk (h1.trans e.symm))]
      have hgb : g = b := by simpa [Value.ownBlock] using hb
      subst hgb
      intro e
      rcases hor with h | h
      · exact hG.ne l.f0 k' (fun e2 => hkk (h1.trans e2)) g h e
      · have := own_lt (hG.own k') g e; omega
    · rw [if_neg h1] at hb
      by_cases h2 : k' = l.f0
      · rw [if_pos h2]
        intro e
        have hgb : g = b := by simpa [Value.ownBlock] using e
        subst hgb
        rcases hor with h | h
        · exact hG.ne k l.f0 h1 g hb h
        · have := own_lt (hG.own k) g hb; omega
      · rw [if_neg h2]
        exact hG.ne k k' hkk b hb
  · refine ⟨?_, ?_, ?_, by rw [hsz]; exact Nat.le_trans hk.size hg.size, fun q hq => ?_⟩
    · rw [hw3]; exact hg.os.trans hk.os
    · rw [hw3]; exact hg.tape.trans hk.tape
    · rw [hw3]; exact hg.output.trans hk.output
    · rw [hfar q (by omega), hg.block q (Nat.lt_of_lt_of_le hq hk.size) (fun e => by have := own_base (hG.own l.f0) q e.symm; omega)]
      exact hk.block q hq
theorem map_run (W : World) (o : Oper) (ev : Operand → Value) (ho : o.op = .makeMap 196 none) : (execOp ev o).run Try.prog W = .ok (.value (.map (some W.heap.size))) (W.alloc (.map #[] 0)) := by
  unfold execOp
  rw [ho]
  rfl
set_option maxHeartbeats 4000000 in
theorem weave_calls (nn uu : Int) (A : Option Addr) (c : Nat) (ls : List Lk) (sn lo hi : Int) (w : World) (hr : Kd.C PB.k88 w A ls.length ls) (hc : ls.length ≤ c) :
    Calls Try.prog 68 #[.agg #[.int .i64 nn, .int .i64 uu, .slice A ls.length c], .agg #[.int .i64 sn, .int .i64 lo, .int .i64 hi]] w (WeavePost w nn uu (.slice A ls.length c) ls sn lo hi) := by
  obtain ⟨i0, hi0, hz0, hz1, hz2⟩ := info_parts info88
  obtain ⟨k, hk⟩ := check_eq nn uu ls
  have HK := Aside0.mk hk
  have HR := Aside0.mk hr
  have HC := Aside0.mk hc
  clear hk hr hc
  go_enter Try.func68, Try.ntmps68
  go_wp2_with ((with_reducible refine gate_dst (N := 2) rfl ?_); refine hold ?_)
  refine box_event rfl (N := 2) rfl (cs := #[.int .i64 nn, .int .i64 uu, .slice A ls.length c]) (t := 32) (by go_simp) ?_
  intro bn hbn w1 hb1 hB1
  have hge : Aside0 (w.heap.size ≤ bn) := ⟨by omega⟩
  have HB1 := Aside0.mk hB1
  have Hb1 := Aside0.mk hb1
  clear hbn hB1 hb1
  go_wp2_with ((with_reducible refine gate_dst (N := 3) rfl ?_); refine hold ?_)
  refine box_event rfl (N := 3) rfl (cs := #[.int .i64 sn, .int .i64 lo, .int .i64 hi]) (t := 43) (by go_simp) ?_
  intro bs hbs w2 hb2 hB2
  have HB2 := Aside0.mk (below_step HB1.out hB2)
  have hge2 : w.heap.size ≤ bs := by have := HB1.out.size; omega
  have hb1' := blk_below Hb1.out hB2
  have C : ∀ W, Below w2.heap.size w2 W → W.heap[bn]? = some (.cells #[.int .i64 nn, .int .i64 uu, .slice A ls.length c] 32 (0, 0)) ∧ W.heap[bs]? = some (.cells #[.int .i64 sn, .int .i64 lo, .int .i64 hi] 43 (0, 0)) := fun W h => ⟨blk_below hb1' h, blk_below hb2 h⟩
  have HCC := Aside0.mk C
  have C0 : w2.cell? ⟨bn, 0, none⟩ = some (.int .i64 nn) := blk_cell (C _ (Below.refl _ _)).1 0
  have C1 : w2.cell? ⟨bn, 1, none⟩ = some (.int .i64 uu) := blk_cell (C _ (Below.refl _ _)).1 1
  have C2 : w2.cell? ⟨bn, 2, none⟩ = some (.slice A ls.length c) := blk_cell (C _ (Below.refl _ _)).1 2
  have HS := Aside0.mk (And.intro hge.out hge2)
  clear C hb1' hb2 hB2 Hb1 HB1 hge hge2 hbs
  by_cases h0 : checkE nn uu ls = 0
  · rw [h0] at HK
    have HOK := checkE_ok h0
    have hn1 := HOK.n1
    have hn2 := HOK.n2
    have HOKA := Aside0.mk HOK
    have hwr : IntKind.i64.wrap (nn - 1) = nn - 1 := by rw [i64_w]; unfold wrap64; omega
    clear HOK hn1 hn2
    by_cases h1 : 0 ≤ sn ∧ sn ≤ nn - 1
    · have hN1 : PB.spread_within.f sn 0 (nn - 1) = some true := by rw [within_eq, decide_eq_true h1]
      have HN1 := Aside0.mk hN1
      have HN := Aside0.mk (And.intro h0 h1)
      clear h0 h1 hN1
      by_cases h2 : timedP lo hi
      · have hT1 : PB.spread_timed.f lo hi = some true := by rw [timed_eq, decide_eq_true h2]
        have HT1 := Aside0.mk hT1
        have HT := Aside0.mk h2
        clear h2 hT1
        go_wp2_with (first | (first | (go_at_call 29; refine ((PB.spread_Check.calls k nn uu A c ls _ _ (Kd.C_below HR.out HB2.out) HC.out HK.out).mono ?_); rintro e w3 ⟨rfl, hb⟩; have B3 := Aside0.mk hb; have D0 : w3.cell? ⟨bs, 0, none⟩ = some (.int .i64 sn) := blk_cell (HCC.out _ hb).2 0; have D1 : w3.cell? ⟨bn, 0, none⟩ = some (.int .i64 nn) := blk_cell (HCC.out _ hb).1 0; clear hb C0 C1 C2) | (go_at_call 72; refine ((PB.spread_within.calls _ _ _ _ _ HN1.out).mono ?_); rintro e w4 ⟨rfl, hb⟩; have B4 := Aside0.mk (below_step B3.out hb.below); have D2 : w4.cell? ⟨bs, 1, none⟩ = some (.int .i64 lo) := blk_cell (HCC.out _ B4.out).2 1; have D3 : w4.cell? ⟨bs, 2, none⟩ = some (.int .i64 hi) := blk_cell (HCC.out _ B4.out).2 2; clear hb D0 D1) | (go_at_call 87; refine ((PB.spread_timed.calls _ _ _ _ HT1.out).mono ?_); rintro e w5 ⟨rfl, hb⟩; have B5 := Aside0.mk (below_step B4.out hb); clear hb D2 D3; try (have C0 : w5.cell? ⟨bn, 0, none⟩ = some (.int .i64 nn) := blk_cell (HCC.out _ B5.out).1 0; have C1 : w5.cell? ⟨bn, 1, none⟩ = some (.int .i64 uu) := blk_cell (HCC.out _ B5.out).1 1; have C2 : w5.cell? ⟨bn, 2, none⟩ = some (.slice A ls.length c) := blk_cell (HCC.out _ B5.out).1 2; have D0 : w5.cell? ⟨bs, 0, none⟩ = some (.int .i64 sn) := blk_cell (HCC.out _ B5.out).2 0; have D1 : w5.cell? ⟨bs, 1, none⟩ = some (.int .i64 lo) := blk_cell (HCC.out _ B5.out).2 1; have D2 : w5.cell? ⟨bs, 2, none⟩ = some (.int .i64 hi) := blk_cell (HCC.out _ B5.out).2 2))) | ((with_reducible refine gate_dst (N := 30) rfl ?_); refine hold ?_))
        refine Kd.event_run (v := .map (some w5.heap.size)) (w1 := w5.alloc (.map #[] 0)) rfl (map_run _ _ _ rfl) ?_
        obtain ⟨w6, hw6⟩ : ∃ w6, w6 = w5.alloc (.map #[] 0) := ⟨_, rfl⟩
        obtain ⟨m, hm⟩ : ∃ m, m = w5.heap.size := ⟨_, rfl⟩
        rw [← hw6, ← hm]
        have hb6 : Below w5.heap.size w5 w6 := by rw [hw6]; exact below_alloc (Below.refl _ _) _
        have B6 := Aside0.mk (below_step B5.out hb6)
        have hmp : w6.heap[m]? = some (.map #[] 0) := by rw [hw6, hm]; exact blk_new w5 _
        have hmge : w.heap.size ≤ m := by have := B5.out.size; have := HB2.out.size; omega
        have HM := Aside0.mk (And.intro hmp hmge)
        clear C0 C1 C2 D0 D1 D2 hw6 hb6 hmp hmge hm
        have C3 : w6.cell? ⟨bn, 2, none⟩ = some (.slice A ls.length c) := blk_cell (HCC.out _ B6.out).1 2
        go_wp2_with ((with_reducible refine gate_dst (N := 32) rfl ?_); refine hold ?_)
        refine box_event rfl (N := 32) rfl (cs := #[.int .i64 nn, .int .i64 uu, .slice A ls.length c, .int .i64 sn, .int .i64 lo, .int .i64 hi, .map (some m)]) (t := 198) (by go_simp) ?_
        intro wp hwp w7 hb7 hB7
        have HI0 : Aside0 (WInv w wp m nn uu (.slice A ls.length c) sn lo hi ls 0 w7) := by
          have h1 := below_step HB2.out B6.out
          refine ⟨⟨hb7, ⟨[], 0, ?_⟩, below_step h1 hB7, by have := h1.size; omega, HM.out.2⟩⟩
          rw [List.take_zero]
          exact groups_nil ((hB7.block m (blk_lt HM.out.1)).trans HM.out.1)
        have B7 := Aside0.mk (below_step HB2.out (below_step B6.out hB7))
        have C3 : w7.cell? ⟨bn, 2, none⟩ = some (.slice A ls.length c) := blk_cell (HCC.out _ (below_step B6.out hB7)).1 2
        have HLEN := Aside0.mk HOKA.out.len
        clear hb7 hB7 hwp B6 B5 B4 B3 HCC HT1 HN1 HS HM hwr
        go_wp2
        clear C3
        go_loopw [36] (fun v wr => ∃ (i : Nat), v = .int .i64 i ∧ i ≤ ls.length ∧ Aside0 (WInv w wp m nn uu (.slice A ls.length c) sn lo hi ls i wr)) (fun v _ => ls.length - (intOf v).toNat)
        case atStart => exact ⟨0, rfl, Nat.zero_le _, HI0⟩
        case round =>
          obtain ⟨i, rfl, hile, HI⟩ := hrel
          clear HI0
          obtain ⟨wo, rfl⟩ : ∃ wo, wo = wr := ⟨_, rfl⟩
          by_cases hgo : i < ls.length
          · obtain ⟨l, hl⟩ : ∃ l, l = ls[i] := ⟨_, rfl⟩
            have HL := Aside0.mk hl
            clear hl
            have hrd : PB.rd_T88 ls (i : Int) = l := by rw [HL.out]; simp [PB.rd_T88, List.getElem?_eq_getElem hgo]
            have ea := PB.at_T88 (Kd.C_below HR.out HI.out.kp) (i : Int) (by omega) (by omega)
            rw [hrd, Int.toNat_natCast] at ea
            obtain ⟨ad, rfl, e0, e1, e2, e3, e4, e5⟩ := ea
            clear hrd
            have hi256 : i < 256 := by have := HLEN.out; omega
            have hwi : IntKind.i64.wrap ((i : Int) + 1) = (i : Int) + 1 := by rw [i64_w]; unfold wrap64; omega
            go_wp2
            obtain ⟨L, cl, hG0⟩ := HI.out.rows
            obtain ⟨W1, hW1⟩ : ∃ W1, W1 = wo.alloc (.cells #[.int .i64 l.f0, .int .i64 l.f1, .int .i64 l.f2.f0, .int .i64 l.f2.f1, .int .i64 l.f3, .bool l.f4] 88) := ⟨_, rfl⟩
            obtain ⟨lb, hlb⟩ : ∃ lb, lb = wo.heap.size := ⟨_, rfl⟩
            rw [← hW1, ← hlb]
            have hb1 : Below wo.heap.size wo W1 := by rw [hW1]; exact below_alloc (Below.refl _ _) _
            have hlb1 : W1.heap[lb]? = some (.cells #[.int .i64 l.f0, .int .i64 l.f1, .int .i64 l.f2.f0, .int .i64 l.f2.f1, .int .i64 l.f3, .bool l.f4] 88 (0, 0)) := by rw [hW1, hlb]; exact blk_new wo _
            have HI1 := HI.out.keep hb1
            have hG1 := hG0.below hb1
            have hlb2 : ∀ k, (rowV L k).ownBlock ≠ some lb := fun k e => by have := own_lt (hG0.own k) lb e; omega
            clear e0 e1 e2 e3 e4 e5 hW1 hlb hb1 HI hG0
            have hbD : Below W1.heap.size W1 W1.drew := below_drew1 (Below.refl _ _)
            have hbA : Below W1.heap.size W1 ((W1.alloc (.cells #[.int .i64 l.f0, .int .i64 l.f1, .int .i64 l.f2.f0, .int .i64 l.f2.f1, .int .i64 l.f3, .bool l.f4] 88)).drew) := below_drew1 (below_alloc (Below.refl _ _) _)
            have hS0 : WSees wp m lb l W1.drew := wsees (HI1.keep hbD).web (blk_below hlb1 hbD)
            have hS1 : WSees wp m lb l ((W1.alloc (.cells #[.int .i64 l.f0, .int .i64 l.f1, .int .i64 l.f2.f0, .int .i64 l.f2.f1, .int .i64 l.f3, .bool l.f4] 88)).drew) := wsees (HI1.keep hbA).web (blk_below hlb1 hbA)
            obtain ⟨sv, hsv⟩ : ∃ sv, sv = rowV L l.f0 := ⟨_, rfl⟩
            have hLD : (Instr.lookup 196 (.map (some m)) (.int .i64 l.f0) false).run Try.prog W1.drew = .ok sv W1.drew := by rw [hsv]; exact run_look _ 196 30 hu196 _ (zero30 _) m L cl (hG1.below hbD).map l.f0
            have hLA : (Instr.lookup 196 (.map (some m)) (.int .i64 l.f0) false).run Try.prog ((W1.alloc (.cells #[.int .i64 l.f0, .int .i64 l.f1, .int .i64 l.f2.f0, .int .i64 l.f2.f1, .int .i64 l.f3, .bool l.f4] 88)).drew) = .ok sv ((W1.alloc (.cells #[.int .i64 l.f0, .int .i64 l.f1, .int .i64 l.f2.f0, .int .i64 l.f2.f1, .int .i64 l.f3, .bool l.f4] 88)).drew) := by rw [hsv]; exact run_look _ 196 30 hu196 _ (zero30 _) m L cl (hG1.below hbA).map l.f0
            have hownA : Aside0 (((W1.alloc (.cells #[.int .i64 l.f0, .int .i64 l.f1, .int .i64 l.f2.f0, .int .i64 l.f2.f1, .int .i64 l.f3, .bool l.f4] 88)).drew).ownsRow w.heap.size 88 6 sv (grp (ls.take i) l.f0).length (linksCs (grp (ls.take i) l.f0))) := ⟨by rw [hsv]; exact (hG1.below hbA).own l.f0⟩
            have hnewsA : Aside0 (∀ j u, [.int .i64 l.f0, .int .i64 l.f1, .int .i64 l.f2.f0, .int .i64 l.f2.f1, .int .i64 l.f3, .bool l.f4][j]? = some u → ((W1.alloc (.cells #[.int .i64 l.f0, .int .i64 l.f1, .int .i64 l.f2.f0, .int .i64 l.f2.f1, .int .i64 l.f3, .bool l.f4] 88)).drew).cell? ((⟨W1.heap.size, 0, none⟩ : Addr).add j) = some u) := ⟨World.news_of_block (w := (W1.alloc (.cells #[.int .i64 l.f0, .int .i64 l.f1, .int .i64 l.f2.f0, .int .i64 l.f2.f1, .int .i64 l.f3, .bool l.f4] 88)).drew) (cs := #[.int .i64 l.f0, .int .i64 l.f1, .int .i64 l.f2.f0, .int .i64 l.f2.f1, .int .i64 l.f3, .bool l.f4]) (blk_drew (blk_new W1 _))⟩
            have hn : (grp (ls.take i) l.f0).length ≤ 256 := by
              have h1 := grp_len (ls.take i) l.f0
              have h2 := HLEN.out
              rw [List.length_take] at h1
              omega
            have hbase : Aside0 (w.heap.size ≤ (W1.alloc (.cells #[.int .i64 l.f0, .int .i64 l.f1, .int .i64 l.f2.f0, .int .i64 l.f2.f1, .int .i64 l.f3, .bool l.f4] 88)).drew.heap.size) := ⟨Nat.le_trans HI1.kp.size hbA.size⟩
            have HSTEP := fun g cap w2 => @weave_step w wo ((W1.alloc (.cells #[.int .i64 l.f0, .int .i64 l.f1, .int .i64 l.f2.f0, .int .i64 l.f2.f1, .int .i64 l.f3, .bool l.f4] 88)).drew) w2 wp m lb g cap nn uu (.slice (some ad) ls.length c) sn lo hi ls i l L cl hgo HL.out (HI1.keep hbA).web (blk_below hlb1 hbA) hlb2 (hG1.below hbA) (below_step HI1.kp hbA) HI1.wpge HI1.mge
            rw [← hsv] at HSTEP
            have HST := Aside0.mk HSTEP
            obtain ⟨N, hN⟩ : ∃ N, N = (grp (ls.take i) l.f0).length := ⟨_, rfl⟩
            rw [← hN] at hownA HST hn
            clear HSTEP hsv hN hG1 hlb1 hlb2 hbD hbA HI1
            have CW : ∀ W, WSees wp m lb l W → W.cell? ⟨wp, 6, none⟩ = some (.map (some m)) := fun W h => h.1
            have CL0 : ∀ W, WSees wp m lb l W → W.cell? ⟨lb, 0, none⟩ = some (.int .i64 l.f0) := fun W h => h.2.1
            have CL1 : ∀ W, WSees wp m lb l W → W.cell? ⟨lb, 1, none⟩ = some (.int .i64 l.f1) := fun W h => h.2.2.1
            have CL2 : ∀ W, WSees wp m lb l W → W.cell? ⟨lb, 2, none⟩ = some (.int .i64 l.f2.f0) := fun W h => h.2.2.2.1
            have CL3 : ∀ W, WSees wp m lb l W → W.cell? ⟨lb, 3, none⟩ = some (.int .i64 l.f2.f1) := fun W h => h.2.2.2.2.1
            have CL4 : ∀ W, WSees wp m lb l W → W.cell? ⟨lb, 4, none⟩ = some (.int .i64 l.f3) := fun W h => h.2.2.2.2.2.1
            have CL5 : ∀ W, WSees wp m lb l W → W.cell? ⟨lb, 5, none⟩ = some (.bool l.f4) := fun W h => h.2.2.2.2.2.2
            go_region_held3 (fun W => WSees wp m lb l W) (first | assumption) (first | (refine step_append_lies _ rfl (.tmp 52) (.tmp 54) 30 rfl w.heap.size 88 i0 _ 6 48 Try.underlying30 hi0 hz0 hz1 hz2 rfl (by decide) sv N (linksCs (grp (ls.take i) l.f0)) (by go_simp) hownA.out ⟨W1.heap.size, 0, none⟩ 1 1 [.int .i64 l.f0, .int .i64 l.f1, .int .i64 l.f2.f0, .int .i64 l.f2.f1, .int .i64 l.f3, .bool l.f4] (by go_simp) rfl hnewsA.out (by simp [Value.oneCell']) (by decide) (by unfold maxLen; omega) (by omega) hbase.out _ rfl ?_; intro g cap w2 hown2 hg2 hor hlt2; obtain ⟨w3, hst, hS2, hS3, hI3⟩ := HST.out g cap w2 hown2 hg2 hor hlt2; clear hown2 hg2 hor hlt2; have HI3 := Aside0.mk hI3; clear hI3))
            all_goals
              clear CW CL0 CL1 CL2 CL3 CL4 CL5 hS0 hS1 hS2 hS3 hst hLD hLA hnewsA hownA hbase HST
              go_wp2
              go_roundw
              case rel => exact ⟨i + 1, by go_num, by omega, HI3⟩
              case measure => simp [intOf]; omega
          · obtain rfl : i = ls.length := by omega
            clear hile hgo
            go_wp2
            go_ret2
            refine ⟨HI.out.kp, .inr ⟨?_, wp, rfl, HI.out.wpge, ?_⟩⟩
            · unfold startE
              rw [if_pos HN.out.1, if_pos HN.out.2, if_pos HT.out]
            · obtain ⟨h1, ⟨L, cl, h2⟩, h3, h4, h5⟩ := HI.out
              rw [List.take_length] at h2
              exact ⟨m, L, cl, h1, h5, h2⟩
      · have hT1 : PB.spread_timed.f lo hi = some false := by rw [timed_eq, decide_eq_false h2]
        have HT1 := Aside0.mk hT1
        have HT : Aside0 (startE nn uu ls sn lo hi = 3) := ⟨by unfold startE; rw [if_pos HN.out.1, if_pos HN.out.2, if_neg h2]⟩
        clear h2 hT1
        go_wp2_with (first | (go_at_call 29; refine ((PB.spread_Check.calls k nn uu A c ls _ _ (Kd.C_below HR.out HB2.out) HC.out HK.out).mono ?_); rintro e w3 ⟨rfl, hb⟩; have B3 := Aside0.mk hb; have D0 : w3.cell? ⟨bs, 0, none⟩ = some (.int .i64 sn) := blk_cell (HCC.out _ hb).2 0; have D1 : w3.cell? ⟨bn, 0, none⟩ = some (.int .i64 nn) := blk_cell (HCC.out _ hb).1 0; clear hb C0 C1 C2) | (go_at_call 72; refine ((PB.spread_within.calls _ _ _ _ _ HN1.out).mono ?_); rintro e w4 ⟨rfl, hb⟩; have B4 := Aside0.mk (below_step B3.out hb.below); have D2 : w4.cell? ⟨bs, 1, none⟩ = some (.int .i64 lo) := blk_cell (HCC.out _ B4.out).2 1; have D3 : w4.cell? ⟨bs, 2, none⟩ = some (.int .i64 hi) := blk_cell (HCC.out _ B4.out).2 2; clear hb D0 D1) | (go_at_call 87; refine ((PB.spread_timed.calls _ _ _ _ HT1.out).mono ?_); rintro e w5 ⟨rfl, hb⟩; have B5 := Aside0.mk (below_step B4.out hb); clear hb D2 D3; try (have C0 : w5.cell? ⟨bn, 0, none⟩ = some (.int .i64 nn) := blk_cell (HCC.out _ B5.out).1 0; have C1 : w5.cell? ⟨bn, 1, none⟩ = some (.int .i64 uu) := blk_cell (HCC.out _ B5.out).1 1; have C2 : w5.cell? ⟨bn, 2, none⟩ = some (.slice A ls.length c) := blk_cell (HCC.out _ B5.out).1 2; have D0 : w5.cell? ⟨bs, 0, none⟩ = some (.int .i64 sn) := blk_cell (HCC.out _ B5.out).2 0; have D1 : w5.cell? ⟨bs, 1, none⟩ = some (.int .i64 lo) := blk_cell (HCC.out _ B5.out).2 1; have D2 : w5.cell? ⟨bs, 2, none⟩ = some (.int .i64 hi) := blk_cell (HCC.out _ B5.out).2 2)))
        go_ret2
        exact ⟨below_step HB2.out B5.out, .inl ⟨by rw [HT.out]; decide, by rw [HT.out]; rfl⟩⟩
    · have hN1 : PB.spread_within.f sn 0 (nn - 1) = some false := by rw [within_eq, decide_eq_false h1]
      have HN1 := Aside0.mk hN1
      have HN : Aside0 (startE nn uu ls sn lo hi = 4) := ⟨by unfold startE; rw [if_pos h0, if_neg h1]⟩
      have HT1 : Aside0 (PB.spread_timed.f lo hi = PB.spread_timed.f lo hi) := ⟨rfl⟩
      clear h0 h1 hN1
      go_wp2_with (first | (go_at_call 29; refine ((PB.spread_Check.calls k nn uu A c ls _ _ (Kd.C_below HR.out HB2.out) HC.out HK.out).mono ?_); rintro e w3 ⟨rfl, hb⟩; have B3 := Aside0.mk hb; have D0 : w3.cell? ⟨bs, 0, none⟩ = some (.int .i64 sn) := blk_cell (HCC.out _ hb).2 0; have D1 : w3.cell? ⟨bn, 0, none⟩ = some (.int .i64 nn) := blk_cell (HCC.out _ hb).1 0; clear hb C0 C1 C2) | (go_at_call 72; refine ((PB.spread_within.calls _ _ _ _ _ HN1.out).mono ?_); rintro e w4 ⟨rfl, hb⟩; have B4 := Aside0.mk (below_step B3.out hb.below); have D2 : w4.cell? ⟨bs, 1, none⟩ = some (.int .i64 lo) := blk_cell (HCC.out _ B4.out).2 1; have D3 : w4.cell? ⟨bs, 2, none⟩ = some (.int .i64 hi) := blk_cell (HCC.out _ B4.out).2 2; clear hb D0 D1) | (go_at_call 87; refine ((PB.spread_timed.calls _ _ _ _ HT1.out).mono ?_); rintro e w5 ⟨rfl, hb⟩; have B5 := Aside0.mk (below_step B4.out hb); clear hb D2 D3; try (have C0 : w5.cell? ⟨bn, 0, none⟩ = some (.int .i64 nn) := blk_cell (HCC.out _ B5.out).1 0; have C1 : w5.cell? ⟨bn, 1, none⟩ = some (.int .i64 uu) := blk_cell (HCC.out _ B5.out).1 1; have C2 : w5.cell? ⟨bn, 2, none⟩ = some (.slice A ls.length c) := blk_cell (HCC.out _ B5.out).1 2; have D0 : w5.cell? ⟨bs, 0, none⟩ = some (.int .i64 sn) := blk_cell (HCC.out _ B5.out).2 0; have D1 : w5.cell? ⟨bs, 1, none⟩ = some (.int .i64 lo) := blk_cell (HCC.out _ B5.out).2 1; have D2 : w5.cell? ⟨bs, 2, none⟩ = some (.int .i64 hi) := blk_cell (HCC.out _ B5.out).2 2)))
      go_ret2
      exact ⟨below_step HB2.out B4.out, .inl ⟨by rw [HN.out]; decide, by rw [HN.out]; rfl⟩⟩
  · have HN : Aside0 (startE nn uu ls sn lo hi = checkE nn uu ls ∧ checkE nn uu ls ≠ 0) := ⟨by unfold startE; rw [if_neg h0], h0⟩
    have hd : (checkE nn uu ls != 0) = true := by simpa using h0
    clear h0
    go_wp2_with (first | (go_at_call 29; refine ((PB.spread_Check.calls k nn uu A c ls _ _ (Kd.C_below HR.out HB2.out) HC.out HK.out).mono ?_); rintro e w3 ⟨rfl, hb⟩))
    go_ret2
    exact ⟨below_step HB2.out hb, .inl ⟨by rw [HN.out.1]; exact HN.out.2, by rw [HN.out.1]; rfl⟩⟩
end Go.Proofs.Ytgmglpnoppcnkaa
