/- The heap's put: an element is added and sifted up. -/
import Derived.Test.YtgmglpnoppcnkaaV1
import Derived.Test.YtgmglpnoppcnkaaH2
import Derived.Deep.AppendLies
import Derived.BigRegion
namespace Go.Proofs.Ytgmglpnoppcnkaa
open Go.RowKit Go.Proofs.YtgmglpnoppcnkaaW.PrintWords Go.Proofs.YtgmglpnoppcnkaaW.PrintLast Go.Proofs.YtgmglpnoppcnkaaW.PrintMore
set_option linter.unusedVariables false
set_option linter.unusedSimpArgs false
set_option maxRecDepth 100000

/-- w' is w but for new blocks and for blocks of S. -/
structure Kp (w w' : World) (S : Nat → Prop) : Prop where
  os : w'.os = w.os
  tape : w'.tape = w.tape
  output : w'.output = w.output
  size : w.heap.size ≤ w'.heap.size
  block : ∀ i, i < w.heap.size → ¬ S i → w'.heap[i]? = w.heap[i]?
theorem Kp.refl (w : World) (S : Nat → Prop) : Kp w w S := ⟨rfl, rfl, rfl, Nat.le_refl _, fun _ _ _ => rfl⟩
theorem Kp.trans {a b c : World} {S T U : Nat → Prop} (h : Kp a b S) (k : Kp b c T) (hS : ∀ i, S i → U i) (hT : ∀ i, i < a.heap.size → T i → U i) : Kp a c U :=
  ⟨k.os.trans h.os, k.tape.trans h.tape, k.output.trans h.output, Nat.le_trans h.size k.size, fun i hi hn =>
    (k.block i (Nat.lt_of_lt_of_le hi h.size) (fun t => hn (hT i hi t))).trans (h.block i hi (fun s => hn (hS i s)))⟩
theorem Kp.mono {a b : World} {S U : Nat → Prop} (h : Kp a b S) (hS : ∀ i, i < a.heap.size → S i → U i) : Kp a b U := ⟨h.os, h.tape, h.output, h.size, fun i hi hn => h.block i hi (fun s => hn (hS i hi s))⟩
theorem Kp.of_below {w w' : World} (h : Below w.heap.size w w') (S : Nat → Prop) : Kp w w' S := ⟨h.os, h.tape, h.output, h.size, fun i hi _ => h.block i hi⟩
theorem Kp.drew (w : World) (S : Nat → Prop) : Kp w w.drew S := ⟨rfl, rfl, rfl, Nat.le_refl _, fun _ _ _ => rfl⟩
theorem Kp.below {w w' : World} {S : Nat → Prop} {B : Nat} (h : Kp w w' S) (hB : B ≤ w.heap.size) (hS : ∀ i, S i → B ≤ i) : Below B w w' :=
  ⟨h.os, h.tape, h.output, h.size, fun k hk => h.block k (by omega) (fun s => by have := hS k s; omega)⟩
theorem Kp.blk {w w' : World} {S : Nat → Prop} {g : Nat} {o : Obj} (h : Kp w w' S) (hb : w.heap[g]? = some o) (hn : ¬ S g) : w'.heap[g]? = some o := (h.block g (blk_lt hb) hn).trans hb
theorem Kp.grown {w w' : World} {row : Option Nat} (h : w.grownBy w' row) : Kp w w' (fun i => some i = row) := ⟨h.os, h.tape, h.output, h.size, fun i hi hn => h.block i hi hn⟩
theorem Kp.setCell (w : World) (g j : Nat) (u : Value) : Kp w (w.setCell ⟨g, j, none⟩ u) (fun i => i = g) :=
  ⟨rfl, rfl, rfl, by simp [World.setCell], fun i hi hn => Below.heap_setCell w ⟨g, j, none⟩ u i hn⟩

/-- The heap lies at gh: its slice sv, of a row of the call's own (from block B on). -/
structure HeapAt (w : World) (gh B : Nat) (sv : Value) (l : List Vis) : Prop where
  blk : w.heap[gh]? = some (.cells #[sv, .func (.func 119) #[] #[]] 218 (0, 0))
  own : w.ownsRow B 214 2 sv l.length (visCs l)
theorem HeapAt.kp {w w' : World} {gh B : Nat} {sv : Value} {l : List Vis} {S : Nat → Prop} (h : HeapAt w gh B sv l) (k : Kp w w' S) (h1 : ¬ S gh) (h2 : ∀ i, sv.ownBlock = some i → ¬ S i) : HeapAt w' gh B sv l :=
  ⟨k.blk h.blk h1, own_move h.own (fun i hi => k.block i (own_lt h.own i hi) (h2 i hi))⟩
/-- The row's block is none of a block of another type. -/
theorem own_ne {w : World} {g t e B size n : Nat} {cs : Array Value} {v : Value} {xs : List Value} (hb : w.heap[g]? = some (.cells cs t (0, 0))) (ho : w.ownsRow B e size v n xs) (hne : e ≠ t) : v.ownBlock ≠ some g := fun h => by
  obtain ⟨cells, hc⟩ := own_typed ho g h
  rw [hc] at hb
  injection hb with hb
  injection hb with _ hb
  exact hne hb

theorem info214 : (Try.prog.info? 214).map (fun i => (i.zero, i.size, i.bytes)) = some (some (.agg #[.int .i64 0, .int .i64 0]), 2, 16) := by kernel_rfl

/-- What put leaves. -/
def PutPost (w : World) (gh B : Nat) (sv : Value) (l' : List Vis) (w' : World) : Prop :=
  ∃ sv', HeapAt w' gh B sv' l' ∧ Kp w w' (fun i => i = gh ∨ some i = sv.ownBlock) ∧ (∀ k, sv'.ownBlock = some k → sv.ownBlock = some k ∨ w.heap.size ≤ k)

/-- What stands behind the append: the heap's fields as they were; the row anew. -/
def AppAt (w : World) (gh B : Nat) (sv : Value) (l1 : List Vis) (g cap : Nat) (w2 : World) : Prop :=
  w2.heap[gh]? = some (.cells #[sv, .func (.func 119) #[] #[]] 218 (0, 0)) ∧ w2.ownsRow B 214 2 (.slice (some ⟨g, 0, none⟩) l1.length cap) l1.length (visCs l1) ∧
  Kp w w2 (fun i => i = gh ∨ some i = sv.ownBlock) ∧ (sv.ownBlock = some g ∨ w.heap.size ≤ g)

theorem append_post {w w1 W2 w2 : World} {gh B g cap : Nat} {sv : Value} {l : List Vis} {n t : Int} (hk1 : Kp w w1 (fun _ => False)) (hh : HeapAt w1 gh B sv l) (hk2 : Kp w1 W2 (fun _ => False))
    (ho : w2.ownsRow B 214 2 (.slice (some ⟨g, 0, none⟩) (l.length + 1) cap) (l.length + 1) (visCs l ++ [.int .i64 n, .int .i64 t])) (hg : W2.grownBy w2 sv.ownBlock) (hor : sv.ownBlock = some g ∨ g = W2.heap.size) (hlt : g < w2.heap.size) :
    w2.cell? ⟨gh, 0, none⟩ = some sv ∧ w2.frozen? ⟨gh, 0, none⟩ = false ∧ AppAt w gh B sv (l ++ [(n, t)]) g cap w2 := by
  have hh2 := hh.kp hk2 (by simp) (by simp)
  have hb : w2.heap[gh]? = some (.cells #[sv, .func (.func 119) #[] #[]] 218 (0, 0)) := blk_grown hh2.blk hg (fun e => own_ne hh2.blk hh2.own (by decide) e.symm)
  have hK : Kp w w2 (fun i => i = gh ∨ some i = sv.ownBlock) := (hk1.trans hk2 (fun _ h => h) (fun _ _ h => h)).trans (Kp.grown hg) (fun _ h => h.elim) (fun _ _ h => .inr h)
  refine ⟨blk_cell hb 0, blk_frozen hb 0, hb, ?_, hK, ?_⟩
  · rw [visCs_append]
    simpa [visCs, visC] using ho
  · exact hor.imp id (fun e => by have := (hk1.trans hk2 (fun _ h => h) (fun _ _ h => h)).size; omega)

/-- At the head of put's loop. -/
structure PutInv (w : World) (gh B : Nat) (sv : Value) (l1 : List Vis) (g cap N : Nat) (k : Nat) (lk : List Vis) (wr : World) : Prop where
  blk : wr.heap[gh]? = some (.cells #[.slice (some ⟨g, 0, none⟩) N cap, .func (.func 119) #[] #[]] 218 (0, 0))
  own : wr.ownsRow B 214 2 (.slice (some ⟨g, 0, none⟩) lk.length cap) lk.length (visCs lk)
  len : lk.length = N
  len1 : l1.length = N
  sift : siftUp lk k = siftUp l1 (l1.length - 1)
  kp : Kp w wr (fun i => i = gh ∨ some i = sv.ownBlock)
  row : sv.ownBlock = some g ∨ w.heap.size ≤ g
theorem PutInv.cell0 {w : World} {gh B : Nat} {sv : Value} {l1 : List Vis} {g cap N k : Nat} {lk : List Vis} {wr : World} (h : PutInv w gh B sv l1 g cap N k lk wr) : wr.cell? ⟨gh, 0, none⟩ = some (.slice (some ⟨g, 0, none⟩) N cap) := blk_cell h.blk 0
theorem PutInv.cell1 {w : World} {gh B : Nat} {sv : Value} {l1 : List Vis} {g cap N k : Nat} {lk : List Vis} {wr : World} (h : PutInv w gh B sv l1 g cap N k lk wr) : wr.cell? ⟨gh, 1, none⟩ = some (.func (.func 119) #[] #[]) := blk_cell h.blk 1
theorem PutInv.at0 {w : World} {gh B : Nat} {sv : Value} {l1 : List Vis} {g cap N k : Nat} {lk : List Vis} {wr : World} (h : PutInv w gh B sv l1 g cap N k lk wr) (i : Nat) (hi : i < lk.length) : wr.cell? ⟨g, i * 2, none⟩ = some (.int .i64 (vat lk i).1) := by
  rw [h.own.cellAt (i * 2) (by omega)]; exact visCs_get0 lk i hi
theorem PutInv.at1 {w : World} {gh B : Nat} {sv : Value} {l1 : List Vis} {g cap N k : Nat} {lk : List Vis} {wr : World} (h : PutInv w gh B sv l1 g cap N k lk wr) (i : Nat) (hi : i < lk.length) : wr.cell? ⟨g, i * 2 + 1, none⟩ = some (.int .i64 (vat lk i).2) := by
  rw [h.own.cellAt (i * 2 + 1) (by omega)]; exact visCs_get1 lk i hi
theorem PutInv.free {w : World} {gh B : Nat} {sv : Value} {l1 : List Vis} {g cap N k : Nat} {lk : List Vis} {wr : World} (h : PutInv w gh B sv l1 g cap N k lk wr) (i : Nat) : wr.frozen? ⟨g, i, none⟩ = false := h.own.frozenAt i
/-- What leaves old memory alone leaves the relation. -/
theorem PutInv.keep {w : World} {gh B : Nat} {sv : Value} {l1 : List Vis} {g cap N k : Nat} {lk : List Vis} {wr W : World} (h : PutInv w gh B sv l1 g cap N k lk wr) (hb : Below wr.heap.size wr W) : PutInv w gh B sv l1 g cap N k lk W :=
  ⟨blk_below h.blk hb, own_move h.own (fun i hi => hb.block i (own_lt h.own i hi)), h.len, h.len1, h.sift, h.kp.trans (Kp.of_below hb (fun _ => False)) (fun _ h => h) (fun _ _ h => h.elim), h.row⟩
theorem swap_facts {w : World} {gh B : Nat} {sv : Value} {l1 : List Vis} {g cap N k k' j : Nat} {lk : List Vis} {wr : World} (h : PutInv w gh B sv l1 g cap N k' lk wr) (hk : k < N) (hj : j < N) :
    wr.cell? ⟨gh, 0, none⟩ = some (.slice (some ⟨g, 0, none⟩) N cap) ∧ wr.cell? ⟨g, k * 2, none⟩ = some (.int .i64 (vat lk k).1) ∧ wr.cell? ⟨g, k * 2 + 1, none⟩ = some (.int .i64 (vat lk k).2) ∧
    wr.cell? ⟨g, j * 2, none⟩ = some (.int .i64 (vat lk j).1) ∧ wr.cell? ⟨g, j * 2 + 1, none⟩ = some (.int .i64 (vat lk j).2) ∧
    wr.frozen? ⟨g, k * 2, none⟩ = false ∧ wr.frozen? ⟨g, k * 2 + 1, none⟩ = false ∧ wr.frozen? ⟨g, j * 2, none⟩ = false ∧ wr.frozen? ⟨g, j * 2 + 1, none⟩ = false :=
  ⟨h.cell0, h.at0 k (by rw [h.len]; exact hk), h.at1 k (by rw [h.len]; exact hk), h.at0 j (by rw [h.len]; exact hj), h.at1 j (by rw [h.len]; exact hj), h.free _, h.free _, h.free _, h.free _⟩
theorem siftUp_stop (l : List Vis) (k j : Nat) (hj : j = (k - 1) / 2) (h : k = 0 ∨ ¬ (vat l k).2 < (vat l j).2) : siftUp l k = l := by
  rw [siftUp, dif_neg]
  rintro ⟨h1, h2⟩
  rcases h with h | h
  · omega
  · exact h (by rw [hj]; exact h2)
theorem siftUp_go (l : List Vis) (k j : Nat) (hj : j = (k - 1) / 2) (h0 : 0 < k) (h : (vat l k).2 < (vat l j).2) : siftUp l k = siftUp (swapL l k j) j := by
  subst hj
  rw [siftUp, dif_pos ⟨h0, h⟩]
theorem put_done {w : World} {gh B : Nat} {sv : Value} {l1 : List Vis} {g cap N k j : Nat} {lk : List Vis} {wr : World} (h : PutInv w gh B sv l1 g cap N k lk wr) (hs : k = 0 ∨ ¬ (vat lk k).2 < (vat lk j).2) (hj : j = (k - 1) / 2) (hB : B ≤ w.heap.size) :
    PutPost w gh B sv (siftUp l1 (N - 1)) wr := by
  have e : siftUp l1 (N - 1) = lk := by rw [← h.len1, ← h.sift]; exact siftUp_stop lk k j hj hs
  rw [e]
  refine ⟨.slice (some ⟨g, 0, none⟩) N cap, ⟨h.blk, by have := h.own; rw [h.len] at this ⊢; exact this⟩, h.kp, fun i hi => ?_⟩
  have : g = i := by simpa [Value.ownBlock] using hi
  subst this
  exact h.row
theorem put_swap {w : World} {gh B : Nat} {sv : Value} {l1 : List Vis} {g cap N k j : Nat} {lk : List Vis} {wr : World} (h : PutInv w gh B sv l1 g cap N k lk wr) (hk : k < N) (hk0 : 0 < k) (hj : j = (k - 1) / 2) (ht : (vat lk k).2 < (vat lk j).2) :
    PutInv w gh B sv l1 g cap N j (swapL lk k j) ((((wr.setCell ⟨g, k * 2, none⟩ (.int .i64 (vat lk j).1)).setCell ⟨g, k * 2 + 1, none⟩ (.int .i64 (vat lk j).2)).setCell ⟨g, j * 2, none⟩ (.int .i64 (vat lk k).1)).setCell ⟨g, j * 2 + 1, none⟩ (.int .i64 (vat lk k).2)).drew := by
  have hne : gh ≠ g := fun e => own_ne h.blk h.own (by decide) (by simp [Value.ownBlock, e])
  have o1 := h.own.stored (k * 2) (.int .i64 (vat lk j).1)
  have o2 := o1.1.stored (k * 2 + 1) (.int .i64 (vat lk j).2)
  have o3 := o2.1.stored (j * 2) (.int .i64 (vat lk k).1)
  have o4 := o3.1.stored (j * 2 + 1) (.int .i64 (vat lk k).2)
  have e : (((((visCs lk).set (k * 2) (.int .i64 (vat lk j).1)).set (k * 2 + 1) (.int .i64 (vat lk j).2)).set (j * 2) (.int .i64 (vat lk k).1)).set (j * 2 + 1) (.int .i64 (vat lk k).2)) = visCs (swapL lk k j) := by
    rw [visCs_set, visCs_set]; rfl
  refine ⟨?_, ?_, by rw [swapL_length]; exact h.len, h.len1, ?_, ?_, h.row⟩
  · exact blk_drew (blk_far (blk_far (blk_far (blk_far h.blk hne _) hne _) hne _) hne _)
  · have := o4.1
    rw [e] at this
    rw [swapL_length]
    exact this.drew
  · rw [← h.sift]; exact (siftUp_go lk k j hj hk0 ht).symm
  · have hg : ∀ i, i < w.heap.size → i = g → i = gh ∨ some i = sv.ownBlock := fun i hi e => by
      subst e
      rcases h.row with h1 | h1
      · exact .inr h1.symm
      · omega
    have k1 := h.kp.trans (Kp.setCell wr g (k * 2) (.int .i64 (vat lk j).1)) (U := fun i => i = gh ∨ some i = sv.ownBlock) (fun _ h => h) hg
    have k2 := k1.trans (Kp.setCell _ g (k * 2 + 1) (.int .i64 (vat lk j).2)) (U := fun i => i = gh ∨ some i = sv.ownBlock) (fun _ h => h) hg
    have k3 := k2.trans (Kp.setCell _ g (j * 2) (.int .i64 (vat lk k).1)) (U := fun i => i = gh ∨ some i = sv.ownBlock) (fun _ h => h) hg
    have k4 := k3.trans (Kp.setCell _ g (j * 2 + 1) (.int .i64 (vat lk k).2)) (U := fun i => i = gh ∨ some i = sv.ownBlock) (fun _ h => h) hg
    exact k4.trans (Kp.drew _ (fun _ => False)) (fun _ h => h) (fun _ _ h => h.elim)
theorem put_store {w w2 : World} {gh B g cap : Nat} {sv : Value} {l : List Vis} {n t : Int} (h : AppAt w gh B sv (l ++ [(n, t)]) g cap w2) :
    PutInv w gh B sv (l ++ [(n, t)]) g cap (l.length + 1) l.length (l ++ [(n, t)]) (w2.setCell ⟨gh, 0, none⟩ (.slice (some ⟨g, 0, none⟩) (l.length + 1) cap)) := by
  obtain ⟨hb, ho, hk, hr⟩ := h
  refine ⟨?_, ?_, by simp, by simp, by simp, ?_, hr⟩
  · simpa using blk_set hb 0 (.slice (some ⟨g, 0, none⟩) (l.length + 1) cap)
  · exact own_move ho (fun k hk => Below.heap_setCell _ _ _ _ (fun e => own_ne hb ho (by decide) (by rw [hk, e])))
  · exact hk.trans (Kp.setCell _ _ _ _) (fun _ h => h) (fun _ _ h => .inl h)

set_option maxHeartbeats 4000000 in
theorem put_calls (gh B : Nat) (sv : Value) (l : List Vis) (n t : Int) (w : World) (hh : HeapAt w gh B sv l) (hB : B ≤ w.heap.size) (hlen : l.length ≤ 100000) :
    Calls Try.prog 120 #[.pointer (some ⟨gh, 0, none⟩), .agg #[.int .i64 n, .int .i64 t]] w fun e w' => e = .returned (.tuple #[]) ∧ PutPost w gh B sv (siftUp (l ++ [(n, t)]) l.length) w' := by
  obtain ⟨i0, hi, hz0, hz1, hz2⟩ := info_parts info214
  go_enter Try.func120, Try.ntmps120
  go_wp2_with ((with_reducible refine gate_dst (N := 3) rfl ?_); refine hold ?_)
  refine box_event rfl (N := 3) rfl (cs := #[.int .i64 n, .int .i64 t]) (t := 214) (by go_simp) ?_
  intro gx hgx w1 hbx hBx
  have HX := Aside0.mk hbx
  have hk1 : Kp w w1 (fun _ => False) := Kp.of_below hBx _
  have hh1 := hh.kp hk1 (by simp) (by simp)
  have HH := Aside0.mk hh1
  have HK1 := Aside0.mk hk1
  have c0 : w1.drew.cell? ⟨gh, 0, none⟩ = some sv := blk_cell (blk_drew hh1.blk) 0
  have f0 : w1.drew.frozen? ⟨gh, 0, none⟩ = false := blk_frozen (blk_drew hh1.blk) 0
  have cx0 : w1.drew.cell? ⟨gx, 0, none⟩ = some (.int .i64 n) := blk_cell (blk_drew hbx) 0
  have cx1 : w1.drew.cell? ⟨gx, 1, none⟩ = some (.int .i64 t) := blk_cell (blk_drew hbx) 1
  clear hbx hBx hk1 hh1 hgx
  have HW := Aside0.mk hh
  have HL := Aside0.mk hlen
  clear hh hlen
  obtain ⟨W2, hW2⟩ : ∃ W2, (w1.alloc (.cells #[.int .i64 n, .int .i64 t] 214)).drew = W2 := ⟨_, rfl⟩
  have hownA : Aside0 ((w1.alloc (.cells #[.int .i64 n, .int .i64 t] 214)).drew.ownsRow B 214 2 sv l.length (visCs l)) := ⟨(HH.out.own.alloc _).drew⟩
  have hnewsA : Aside0 (∀ j u, [Value.int .i64 n, Value.int .i64 t][j]? = some u → (w1.alloc (.cells #[.int .i64 n, .int .i64 t] 214)).drew.cell? ((⟨w1.heap.size, 0, none⟩ : Addr).add j) = some u) :=
    ⟨World.news_of_block (w := (w1.alloc (.cells #[.int .i64 n, .int .i64 t] 214)).drew) (cs := #[.int .i64 n, .int .i64 t]) (blk_drew (blk_new w1 _))⟩
  have hk2 : Aside0 (Kp w1 (w1.alloc (.cells #[.int .i64 n, .int .i64 t] 214)).drew (fun _ => False)) := ⟨Kp.of_below (below_drew1 (below_alloc (Below.refl _ _) _)) _⟩
  have hBA : Aside0 (B ≤ (w1.alloc (.cells #[.int .i64 n, .int .i64 t] 214)).drew.heap.size) := ⟨Nat.le_trans hB (Nat.le_trans HK1.out.size hk2.out.size)⟩
  have cA : (w1.alloc (.cells #[.int .i64 n, .int .i64 t] 214)).cell? ⟨gh, 0, none⟩ = some sv := blk_cell (blk_alloc HH.out.blk _) 0
  clear hW2 W2
  go_wp2
  go_region_law (refine step_append_lies _ rfl (.tmp 9) (.tmp 11) 216 rfl B 214 i0 _ 2 16 Try.underlying216 hi hz0 hz1 hz2 rfl (by decide) sv l.length (visCs l) (by go_simp) hownA.out ⟨w1.heap.size, 0, none⟩ 1 1 [.int .i64 n, .int .i64 t] (by go_simp) rfl hnewsA.out (by simp [Value.oneCell']) (by decide) (by have := HL.out; unfold maxLen; omega) (by have := HL.out; omega) hBA.out _ rfl ?_; intro g cap w2 hown2 hg2 hor hlt2; have hE := append_post HK1.out HH.out hk2.out hown2 hg2 hor hlt2; clear hown2 hg2 hor hlt2; have c20 := hE.1; have f20 := hE.2.1; have HE := Aside0.mk hE.2.2; clear hE)
  all_goals
    have HP := Aside0.mk (put_store HE.out)
    clear HE c20 f20 cA hownA hnewsA hk2 hBA c0 f0 cx0 cx1 HX HH HK1 HW
    generalize (w2.setCell ⟨gh, 0, none⟩ (.slice (some ⟨g, 0, none⟩) (l.length + 1) cap)) = w3 at HP ⊢
    obtain ⟨N, hN⟩ : ∃ N, N = l.length + 1 := ⟨_, rfl⟩
    rw [← hN] at HP ⊢
    have c30 := HP.out.cell0
    have hN1 : 1 ≤ N := by omega
    have hN2 : N ≤ 200000 := by have := HL.out; omega
    have HN := Aside0.mk hN
    clear hN
    go_wp2
    clear c30
    go_loopw [4] (fun v wr => ∃ (k : Nat) (lk : List Vis), v = .int .i64 k ∧ k < N ∧ Aside0 (PutInv w gh B sv (l ++ [(n, t)]) g cap N k lk wr)) (fun v _ => (intOf v).toNat)
    case atStart => exact ⟨N - 1, l ++ [(n, t)], by go_num, by omega, by rw [show N - 1 = l.length by have := HN.out; omega]; exact HP⟩
    case round =>
      obtain ⟨k, lk, rfl, hk, HI⟩ := hrel
      clear HP
      by_cases hk0 : 0 < k
      · have hd : decide ((0 : Int) < (k : Int)) = true := by simp; omega
        obtain ⟨j, hj⟩ : ∃ j, j = (k - 1) / 2 := ⟨_, rfl⟩
        have hjk : j < k := by omega
        have hjN : j < N := by omega
        have HJ := Aside0.mk hj
        have hw1 : IntKind.i64.wrap ((k : Int) - 1) = (k : Int) - 1 := by rw [i64_w]; unfold wrap64; omega
        have hw2 : IntKind.i64.wrap (((k : Int) - 1).tdiv 2) = (j : Int) := by rw [i64_w, Int.tdiv_eq_ediv_of_nonneg (by omega)]; unfold wrap64; omega
        have C : ∀ W, Below wr.heap.size wr W → (W.cell? ⟨gh, 0, none⟩ = some (.slice (some ⟨g, 0, none⟩) N cap) ∧ W.cell? ⟨gh, 1, none⟩ = some (.func (.func 119) #[] #[])) ∧ (W.cell? ⟨g, k * 2, none⟩ = some (.int .i64 (vat lk k).1) ∧ W.cell? ⟨g, k * 2 + 1, none⟩ = some (.int .i64 (vat lk k).2)) ∧ (W.cell? ⟨g, j * 2, none⟩ = some (.int .i64 (vat lk j).1) ∧ W.cell? ⟨g, j * 2 + 1, none⟩ = some (.int .i64 (vat lk j).2)) := fun W h => by
          have hI := HI.out.keep h
          exact ⟨⟨hI.cell0, hI.cell1⟩, ⟨hI.at0 k (by rw [hI.len]; exact hk), hI.at1 k (by rw [hI.len]; exact hk)⟩, hI.at0 j (by rw [hI.len]; exact hjN), hI.at1 j (by rw [hI.len]; exact hjN)⟩
        have C1 := fun W h => (C W h).1.1
        have C2 := fun W h => (C W h).1.2
        have C3 := fun W h => (C W h).2.1.1
        have C4 := fun W h => (C W h).2.1.2
        have C5 := fun W h => (C W h).2.2.1
        have C6 := fun W h => (C W h).2.2.2
        clear C hj
        go_wp2
        go_region_held3 (fun W => Below wr.heap.size wr W) (first | exact below_drew1 (Below.refl _ _) | exact below_step (by assumption) (by assumption)) (first | (go_at_call 119; refine (less_calls _ _ _ _ _).mono ?_; rintro e w' ⟨rfl, hbh⟩))
        rename_i hh
        have HW := Aside0.mk hh
        clear hh hbh C1 C2 C3 C4 C5 C6
        by_cases ht : (vat lk k).2 < (vat lk j).2
        · have hIs := HI.out.keep HW.out
          obtain ⟨c0, c3, c4, c5, c6, f3, f4, f5, f6⟩ := swap_facts hIs hk hjN
          have HS := Aside0.mk hIs
          clear hIs
          go_wp2
          go_region
          have HN2 := Aside0.mk (put_swap HS.out hk hk0 HJ.out ht)
          clear HS c0 c3 c4 c5 c6 f3 f4 f5 f6
          generalize (World.drew _) = w4 at HN2 ⊢
          go_wp2
          go_roundw
          case rel => exact ⟨j, _, by go_num, hjN, HN2⟩
          case measure => simp [intOf]; omega
        · have HQ := Aside0.mk (put_done (HI.out.keep HW.out) (.inr ht) HJ.out hB)
          go_wp2
          go_end0
          refine ⟨rfl, ?_⟩
          simpa [HN.out] using HQ.out
      · obtain rfl : k = 0 := by omega
        have HQ := Aside0.mk (fun q => put_done (j := 0) (HI.out.keep (pw_below_drewN (Below.refl _ _) q)) (.inl rfl) rfl hB)
        have hd : decide ((0 : Int) < ((0 : Nat) : Int)) = false := by simp
        go_wp2
        go_quiet (fail)
        go_wp2
        go_end0
        refine ⟨rfl, ?_⟩
        simpa [HN.out] using HQ.out _
end Go.Proofs.Ytgmglpnoppcnkaa
