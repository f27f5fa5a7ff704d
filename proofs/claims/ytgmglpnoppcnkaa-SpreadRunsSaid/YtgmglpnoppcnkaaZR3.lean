/- Lemmas and contracts for the claim: part 3, brought together by program. -/
import Derived.Test.YtgmglpnoppcnkaaZR2
import Derived.Deep.LoopGhost
import Derived.RangeFuncNested
import Derived.RangeFuncCalls
import Derived.RangeFuncLeaves
import Derived.RangeFuncRecord
import Derived.Lib.SliceRun
import Derived.Shelf.Abstract
import Derived.Shelf.RegionOpen
import Derived.OwnWalkIn
import Derived.TacticsInMore
import Derived.LoopNIn
import Derived.LoopIn
import Derived.WalkMore
import Derived.OrdersIn
import Derived.Deep.RegionHeld3
import Derived.Maps.RangeRun
section
namespace Go.Proofs.Ytgmglpnoppcnkaa
open Go.RowKit Go.Proofs.YtgmglpnoppcnkaaW.PrintWords Go.Proofs.YtgmglpnoppcnkaaW.PrintLast Go.Proofs.YtgmglpnoppcnkaaW.PrintMore
set_option linter.unusedVariables false
set_option linter.unusedSimpArgs false
set_option maxRecDepth 100000
/-- The closure: how long a link takes, and whether it can be used. -/
structure UsedAt (w : World) (uf : FuncId) (cap : Value) (ls : List Lk) (ud : Lk → Int) (ub : Lk → Bool) : Prop where
  cf : ∀ args W, (callFunc uf args).run Try.prog W = .ok (.enter uf args) W
  calls : ∀ W, Below w.heap.size w W → ∀ l ∈ ls, Calls Try.prog uf #[.agg (linkCs l), cap] W fun e w' => e = .returned (.tuple #[.int .i64 (ud l), .bool (ub l)]) ∧ Below W.heap.size W w'
def ueOf (ud : Lk → Int) (ub : Lk → Bool) (l : Lk) : Option Int := if ub l then some (ud l) else none
def intsCs (o : List Int) : Array Value := (o.map (Value.int .i64)).toArray
theorem WebAt.below {w W : World} {B wp : Nat} {nn uu : Int} {sv : Value} {sn lo hi : Int} {ls : List Lk} (h : WebAt w B wp nn uu sv sn lo hi ls) (hb : Below w.heap.size w W) : WebAt W B wp nn uu sv sn lo hi ls := by
  obtain ⟨h0, m, L, c, h1, h2, h3⟩ := h
  exact ⟨h0, m, L, c, blk_below h1 hb, h2, h3.below hb⟩
/-- The search's memory: the heap at gh, the times at g. -/
structure LInv (w : World) (gh g : Nat) (o : List Int) (sv : Value) (h : List Vis) (wr : World) : Prop where
  kp : Below w.heap.size w wr
  ghge : w.heap.size ≤ gh
  gge : w.heap.size ≤ g
  hp : HeapAt wr gh w.heap.size sv h
  out : wr.heap[g]? = some (.cells (intsCs o) 3 (0, 0))
section
variable {w wr W : World} {gh g : Nat} {o : List Int} {sv : Value} {h : List Vis}
theorem LInv.keep (H : LInv w gh g o sv h wr) (hb : Below wr.heap.size wr W) : LInv w gh g o sv h W :=
  ⟨below_step H.kp hb, H.ghge, H.gge, H.hp.kp (Kp.of_below hb (fun _ => False)) (fun h => h) (fun _ _ h => h), blk_below H.out hb⟩
theorem LInv.ne (H : LInv w gh g o sv h wr) : g ≠ gh := fun e => by
  have a := H.out; have b := H.hp.blk; rw [e, b] at a; simp at a
theorem LInv.ne2 (H : LInv w gh g o sv h wr) : sv.ownBlock ≠ some g := own_ne H.out H.hp.own (by decide)
/-- Behind put. -/
theorem LInv.put {l' : List Vis} (H : LInv w gh g o sv h wr) (P : PutPost wr gh w.heap.size sv l' W) : ∃ sv', LInv w gh g o sv' l' W ∧ (∀ k, sv'.ownBlock = some k → sv.ownBlock = some k ∨ wr.heap.size ≤ k) ∧ Kp wr W (fun i => i = gh ∨ some i = sv.ownBlock) := by
  obtain ⟨sv', h1, h2, h3⟩ := P
  refine ⟨sv', ⟨?_, H.ghge, H.gge, h1, ?_⟩, h3, h2⟩
  · refine H.kp.trans (h2.below H.kp.size ?_)
    rintro i (rfl | e)
    · exact H.ghge
    · exact own_base H.hp.own i e.symm
  · exact h2.blk H.out (fun e => e.elim H.ne (fun e => H.ne2 e.symm))
/-- Behind take. -/
theorem LInv.take {l' : List Vis} (H : LInv w gh g o sv h wr) (P : TakePost wr gh w.heap.size sv l' W) : ∃ sv', LInv w gh g o sv' l' W ∧ sv'.ownBlock = sv.ownBlock := by
  obtain ⟨sv', h1, h2, h3⟩ := P
  refine ⟨sv', ⟨?_, H.ghge, H.gge, h1, ?_⟩, h3⟩
  · refine H.kp.trans (h2.below H.kp.size ?_)
    rintro i (rfl | e)
    · exact H.ghge
    · exact own_base H.hp.own i e.symm
  · exact h2.blk H.out (fun e => e.elim H.ne (fun e => H.ne2 e.symm))
/-- A time is written. -/
theorem LInv.store (H : LInv w gh g o sv h wr) (i : Nat) (t : Int) : LInv w gh g (o.set i t) sv h (wr.setCell ⟨g, i, none⟩ (.int .i64 t)) := by
  refine ⟨?_, H.ghge, H.gge, H.hp.kp (Kp.setCell wr g i _) (fun e => H.ne e.symm) (fun k hk e => H.ne2 (by rw [hk, e])), ?_⟩
  · exact H.kp.trans ((Kp.setCell wr g i (.int .i64 t)).below H.kp.size (fun j e => by rw [e]; exact H.gge))
  · have := blk_set H.out i (.int .i64 t)
    rw [this]
    simp [intsCs, List.map_set]
end
theorem own_slice {w : World} {B e size n : Nat} {v : Value} {xs : List Value} (h : w.ownsRow B e size v n xs) : ∃ A cap, v = .slice A n cap := by
  rcases h.2 with ⟨rfl, rfl⟩ | ⟨g, cap, cur, rfl, _⟩
  · exact ⟨none, 0, rfl⟩
  · exact ⟨_, cap, rfl⟩
theorem own_slice_pos {w : World} {B e size n : Nat} {v : Value} {xs : List Value} (h : w.ownsRow B e size v n xs) (h0 : 0 < n) : ∃ g cap, v = .slice (some ⟨g, 0, none⟩) n cap := by
  rcases h.2 with ⟨rfl, rfl⟩ | ⟨g, cap, cur, rfl, _⟩
  · omega
  · exact ⟨_, cap, rfl⟩
set_option maxHeartbeats 4000000 in
theorem least_calls (wp B nn : Nat) (uu : Int) (sv0 : Value) (sn lo hi : Int) (ls : List Lk) (b : Int) (uf : FuncId) (cap : Value) (ud : Lk → Int) (ub : Lk → Bool) (w : World)
    (hw : WebAt w B wp nn uu sv0 sn lo hi ls) (hE : EOk ls (ueOf ud ub) sn b nn) (h1 : 1 ≤ nn) (hL : ls.length ≤ 256) (hU : UsedAt w uf cap ls ud ub) :
    Calls Try.prog 104 #[.pointer (some ⟨wp, 0, none⟩), .int .i64 b, .func (.func uf) #[] #[cap]] w fun e w' => ∃ g o, e = .returned (.slice (some ⟨g, 0, none⟩) nn nn) ∧ w.heap.size ≤ g ∧ w'.heap[g]? = some (.cells (intsCs o) 3 (0, 0)) ∧ LeastAt ls (ueOf ud ub) sn b nn o ∧ Below w.heap.size w w' := by
  have HW := Aside0.mk hw
  have HE := Aside0.mk hE
  have HLS := Aside0.mk hL
  have HU := Aside0.mk hU
  clear hw hE hL hU
  obtain ⟨hB, m, L, cl, hweb, hmB, hG⟩ := HW.out
  have HG := Aside0.mk hG
  have HWB := Aside0.mk hweb
  clear hG hB hmB
  have hn64 := HE.out.n64
  have hA : Below w.heap.size w (w.alloc (.cells #[.int .i64 1099511627776] 3)) := below_alloc (Below.refl _ _) _
  have c0 : (w.alloc (.cells #[.int .i64 1099511627776] 3)).cell? ⟨wp, 0, none⟩ = some (.int .i64 nn) := blk_cell (blk_below hweb hA) 0
  have HA := Aside0.mk (And.intro hA (blk_cell (blk_new w (.cells #[.int .i64 1099511627776] 3 (0, 0))) 0))
  clear hweb hA
  go_enter Try.func104, Try.ntmps104
  go_wp2_with (first | (go_at_call 64; refine (repeat_calls 1099511627776 nn _ _ h1 hn64 HA.out.2).mono ?_; rintro e w1 ⟨⟨g, rfl, hg, hgb⟩, hb1⟩; clear c0) | ((with_reducible refine gate_dst (N := 22) rfl ?_); refine hold ?_))
  have hk1 : Below w.heap.size w w1 := below_step HA.out.1 hb1
  have hgo : w1.heap[g]? = some (.cells (intsCs (List.replicate nn NV)) 3 (0, 0)) := by rw [hgb]; simp [intsCs, NV]
  refine box_event rfl (N := 22) rfl (cs := #[.slice none 0 0, .func (.func 119) #[] #[]]) (t := 218) (by go_simp) ?_
  intro gh hgh w2 hb2 hB2
  have HI0 : Aside0 (LInv w gh g (List.replicate nn NV) (.slice none 0 0) [] w2) := by
    refine ⟨below_step hk1 hB2, by have := hk1.size; omega, by have := HA.out.1.size; omega, ⟨hb2, ⟨rfl, .inl ⟨rfl, rfl⟩⟩⟩, blk_below hgo hB2⟩
  have c1 : w2.cell? ⟨wp, 3, none⟩ = some (.int .i64 sn) := blk_cell (blk_below HWB.out HI0.out.kp) 3
  clear hk1 hgo hb2 hB2 hgh hb1 hgb hg HA
  go_wp2_with (first | (go_at_call 120; refine (put_calls gh w.heap.size (.slice none 0 0) [] sn b _ HI0.out.hp HI0.out.kp.size (by simp)).mono ?_; rintro e w3 ⟨rfl, hp⟩; clear c1))
  obtain ⟨sv1, hI1, -, -⟩ := HI0.out.put hp
  rw [show siftUp ([] ++ [(sn, b)]) ([] : List Vis).length = [(sn, b)] from siftUp_stop [(sn, b)] 0 0 rfl (.inl rfl)] at hI1
  have HI1 := Aside0.mk hI1
  clear HI0 hp hI1
  go_loopg [9] (nn * (ls.length + 2) + 1) (fun k s9 wr => ∃ o h sv, Aside0 (k = (nn - setd o) * (ls.length + 2) + h.length ∧ (nn - setd o) * (ls.length + 2) + h.length ≤ nn * (ls.length + 2) + 1) ∧ Aside0 (LInv w gh g o sv h wr) ∧ Aside0 (DInv ls (ueOf ud ub) sn b nn o h))
  case atStart => exact ⟨_, _, sv1, ⟨by rw [setd_rep]; simp, by rw [setd_rep]; simp⟩, HI1, ⟨DInv.init HE.out⟩⟩
  case round =>
    obtain ⟨o, h, sv, HK, HI, HD⟩ := hrel
    clear HI1
    by_cases h0 : h.length = 0
    · have hnil : h = [] := List.length_eq_zero_iff.1 h0
      obtain ⟨A, cap', hsv⟩ := own_slice HI.out.hp.own
      have c1 : wr.cell? ⟨gh, 0, none⟩ = some sv := blk_cell HI.out.hp.blk 0
      rw [hsv, h0] at c1
      have HH := Aside0.mk (And.intro hnil hsv)
      clear hnil hsv h0
      go_wp2
      go_ret
      have hd := HD.out
      rw [HH.out.1] at hd
      exact ⟨g, o, rfl, HI.out.gge, HI.out.out, hd.done HE.out, HI.out.kp⟩
    · have h0' : 0 < h.length := by omega
      clear h0
      obtain ⟨n, hn⟩ : ∃ n, h.length = n + 1 := ⟨h.length - 1, by omega⟩
      obtain ⟨gr, cp, hsv⟩ := own_slice_pos HI.out.hp.own h0'
      rw [hn] at hsv
      subst hsv
      have c1 : wr.cell? ⟨gh, 0, none⟩ = some (.slice (some ⟨gr, 0, none⟩) (n + 1) cp) := blk_cell HI.out.hp.blk 0
      have hn2 : n ≤ 200000 := by
        have hk := HK.out.2
        have hl := HLS.out
        have h3 : nn * (ls.length + 2) ≤ 64 * 258 := Nat.mul_le_mul hn64 (by omega)
        omega
      have hdec : decide ((0 : Int) < ((n + 1 : Nat) : Int)) = true := by simp
      have HN := Aside0.mk (And.intro hn h0')
      clear hn h0'
      go_wp2_with (first | (go_at_call 121; refine (take_calls gh w.heap.size gr n cp h _ HN.out.1 hn2 HI.out.kp.size HI.out.hp).mono ?_; rintro e w4 ⟨rfl, hp⟩; clear c1; obtain ⟨sv2, hI2, hso⟩ := HI.out.take hp; have HI2 := Aside0.mk hI2; have HSO := Aside0.mk hso; clear hI2 hso hp))
      have hmem := HD.out.walk _ (vat_mem h HN.out.2)
      obtain ⟨v, hv⟩ : ∃ v : Nat, (vat h 0).1 = (v : Int) := ⟨(vat h 0).1.toNat, by have := hmem.1.1; omega⟩
      obtain ⟨t, ht⟩ : ∃ t, (vat h 0).2 = t := ⟨_, rfl⟩
      have hvn : v < nn := by have := hmem.1.2; omega
      have ht0 := HD.out.pos _ (vat_mem h HN.out.2)
      have ht1 := HD.out.hb _ (vat_mem h HN.out.2)
      have hsl := setd_le o
      rw [HD.out.len] at hsl
      rw [ht] at ht0 ht1
      have ht2 : t ≤ 65000000000 := by omega
      rw [hv, ht]
      have HV := Aside0.mk (And.intro hv ht)
      clear hmem hv ht ht1 hsl
      obtain ⟨w5, hw5⟩ : ∃ w5, w5 = w4.alloc (.cells #[.int .i64 (v : Int), .int .i64 t] 214) := ⟨_, rfl⟩
      obtain ⟨bv, hbv⟩ : ∃ bv, bv = w4.heap.size := ⟨_, rfl⟩
      rw [← hw5, ← hbv]
      have hb5 : Below w4.heap.size w4 w5 := by rw [hw5]; exact below_alloc (Below.refl _ _) _
      have hbx : w5.heap[bv]? = some (.cells #[.int .i64 (v : Int), .int .i64 t] 214 (0, 0)) := by rw [hw5, hbv]; exact blk_new w4 _
      have HI3 := Aside0.mk (HI2.out.keep hb5)
      have hne : ∀ k, sv2.ownBlock = some k → k ≠ bv := fun k hk e => by have := own_lt HI2.out.hp.own k hk; omega
      have HBX := Aside0.mk (And.intro hbx hne)
      clear HI2 hb5 hbx hne hw5 hbv
      clear w4
      obtain ⟨x, hx⟩ : ∃ x, oat o v = x := ⟨_, rfl⟩
      have C : ∀ W, Below w5.heap.size w5 W → W.cell? ⟨bv, 0, none⟩ = some (.int .i64 (v : Int)) ∧ W.cell? ⟨bv, 1, none⟩ = some (.int .i64 t) ∧ W.cell? ⟨g, v, none⟩ = some (.int .i64 x) := fun W hb => by
        refine ⟨blk_cell (blk_below HBX.out.1 hb) 0, blk_cell (blk_below HBX.out.1 hb) 1, ?_⟩
        rw [blk_cell (blk_below HI3.out.out hb) v]
        have hvl : v < o.length := by rw [HD.out.len]; exact hvn
        rw [← hx]
        simp [intsCs, oat, List.getElem?_eq_getElem hvl, List.getD_eq_getElem?_getD]
      have C0 := fun W hb => (C W hb).1
      have C1 := fun W hb => (C W hb).2.1
      have C2 := fun W hb => (C W hb).2.2
      have HX := Aside0.mk hx
      clear C hx
      by_cases hle : x ≤ t
      · have hd1 : decide (x ≤ t) = true := by simpa using hle
        have HLE := Aside0.mk hle
        clear hle
        go_wp2
        go_region_held3 (fun W => Below w5.heap.size w5 W) (first | exact below_drew1 (Below.refl _ _) | exact below_step (by assumption) (by assumption)) (fail)
        rename_i hHeld
        have HI4 := Aside0.mk (HI3.out.keep hHeld)
        clear hHeld C0 C1 C2 hd1 HI HI3 HSO
        go_wp2
        have hlt := (take_all h HD.out.ok HN.out.2).2.2
        have hk1 := HK.out
        go_roundg ((nn - setd o) * (ls.length + 2) + (takeRest h).length)
        case measure => rw [hk1.1]; omega
        case rel =>
          refine ⟨o, takeRest h, sv2, ⟨rfl, by omega⟩, HI4, ⟨HD.out.skip HE.out HN.out.2 ?_⟩⟩
          rw [HV.out.1, HV.out.2, HX.out]
          exact HLE.out
      · have hd1 : decide (x ≤ t) = false := by simpa using hle
        have hset := HD.out.settle HE.out HN.out.2 (by rw [HV.out.1, HV.out.2, HX.out]; omega)
        rw [HV.out.1, HV.out.2] at hset
        have HSET := Aside0.mk hset
        clear hle hset
        go_wp2
        go_region_held3 (fun W => Below w5.heap.size w5 W) (first | exact below_drew1 (Below.refl _ _) | exact below_step (by assumption) (by assumption)) (fail)
        rename_i hHeld
        have f0 : w5.drew.frozen? ⟨g, v, none⟩ = false := blk_frozen (HI3.out.keep hHeld).out v
        have D0 := C0 _ hHeld
        have D1 := C1 _ hHeld
        have D2 := C2 _ hHeld
        clear hHeld C0 C1 C2 HI HSO
        go_wp2
        obtain ⟨w6, hw6⟩ : ∃ w6, w6 = (w5.setCell ⟨g, v, none⟩ (.int .i64 t)).drew := ⟨_, rfl⟩
        rw [← hw6]
        have HI6 : Aside0 (LInv w gh g (o.set v t) sv2 (takeRest h) w6) := ⟨by rw [hw6]; exact (HI3.out.store v t).keep (below_drew1 (Below.refl _ _))⟩
        have HB6 : Aside0 (w6.heap[bv]? = some (.cells #[.int .i64 (v : Int), .int .i64 t] 214 (0, 0)) ∧ ∀ k, sv2.ownBlock = some k → k ≠ bv) := by
          refine ⟨?_, HBX.out.2⟩
          rw [hw6]
          refine blk_drew (blk_far HBX.out.1 (fun e => ?_) _)
          have a := HBX.out.1; have b := HI3.out.out; rw [e, b] at a; simp at a
        clear f0 D0 D1 D2 hw6 HI3 HBX
        clear w5
        have HG6 := HG.out.below HI6.out.kp
        obtain ⟨nG, hnG⟩ : ∃ nG, nG = (grp ls v).length := ⟨_, rfl⟩
        obtain ⟨A, cg, hrv⟩ := own_slice (HG6.own v)
        rw [← hnG] at hrv
        have hnG2 : nG ≤ 256 := by have := grp_len ls v; have := HLS.out; omega
        have CW : ∀ W, Below w6.heap.size w6 W → W.cell? ⟨wp, 6, none⟩ = some (.map (some m)) := fun W hb => blk_cell (blk_below HWB.out (below_step HI6.out.kp hb)) 6
        have CB : ∀ W, Below w6.heap.size w6 W → W.cell? ⟨bv, 0, none⟩ = some (.int .i64 (v : Int)) := fun W hb => blk_cell (blk_below HB6.out.1 hb) 0
        have hLD : (Instr.lookup 196 (.map (some m)) (.int .i64 (v : Int)) false).run Try.prog w6.drew = .ok (.slice A nG cg) w6.drew := by
          rw [← hrv]; exact run_look _ 196 30 hu196 _ (zero30 _) m L cl (HG6.below (below_drew1 (Below.refl _ _))).map v
        have HNG := Aside0.mk (And.intro hnG hrv)
        clear hnG hrv HG6
        go_wp2
        go_region_held3 (fun W => Below w6.heap.size w6 W) (first | exact below_drew1 (Below.refl _ _) | exact below_step (by assumption) (by assumption)) (fail)
        rename_i hHeld
        have HI7 := Aside0.mk (HI6.out.keep hHeld)
        have HB7 := Aside0.mk (And.intro (blk_below HB6.out.1 hHeld) HB6.out.2)
        clear hHeld hLD CW CB HI6 HB6
        go_wp2
        go_loopw [62] (fun s62 wi => ∃ (j : Nat) (sv3 : Value), s62 = .int .i64 j ∧ j ≤ nG ∧ Aside0 (LInv w gh g (o.set v t) sv3 (pushAll (ueOf ud ub) t (takeRest h) ((grp ls v).take j)) wi) ∧ Aside0 (wi.heap[bv]? = some (.cells #[.int .i64 (v : Int), .int .i64 t] 214 (0, 0)) ∧ ∀ k, sv3.ownBlock = some k → k ≠ bv)) (fun s62 _ => nG - (intOf s62).toNat)
        case atStart => exact ⟨0, sv2, rfl, Nat.zero_le _, HI7, HB7⟩
        case round =>
          obtain ⟨j, sv3, rfl, hj, HJ, HBJ⟩ := hrel
          clear HI7 HB7
          by_cases hgo : j < nG
          · have hjl : j < (grp ls v).length := by rw [← HNG.out.1]; exact hgo
            obtain ⟨l, hl⟩ : ∃ l, l = (grp ls v)[j] := ⟨_, rfl⟩
            have hlm : l ∈ ls := ((grp_mem ls v l).1 (by rw [hl]; exact List.getElem_mem hjl)).1
            have hown := (HG.out.below HJ.out.kp).own v
            obtain ⟨gq, cq, hq⟩ := own_slice_pos hown (by omega)
            rw [HNG.out.2] at hq
            simp only [Value.slice.injEq] at hq
            obtain ⟨rfl, -, -⟩ := hq
            rw [HNG.out.2, ← HNG.out.1] at hown
            have hcell : ∀ i, i < 6 → wr.cell? ⟨gq, j * 6 + i, none⟩ = (linkCs l).toList[i]? := fun i hi => by
              rw [hown.cellAt (j * 6 + i) (by omega), hl]
              exact linksCs_get _ j i hjl hi
            have e0 : wr.cell? ⟨gq, j * 6, none⟩ = some (.int .i64 l.f0) := hcell 0 (by omega)
            have e1 : wr.cell? ⟨gq, j * 6 + 1, none⟩ = some (.int .i64 l.f1) := hcell 1 (by omega)
            have e2 : wr.cell? ⟨gq, j * 6 + 2, none⟩ = some (.int .i64 l.f2.f0) := hcell 2 (by omega)
            have e3 : wr.cell? ⟨gq, j * 6 + 3, none⟩ = some (.int .i64 l.f2.f1) := hcell 3 (by omega)
            have e4 : wr.cell? ⟨gq, j * 6 + 4, none⟩ = some (.int .i64 l.f3) := hcell 4 (by omega)
            have e5 : wr.cell? ⟨gq, j * 6 + 5, none⟩ = some (.bool l.f4) := hcell 5 (by omega)
            have HLL := Aside0.mk (And.intro hl hlm)
            have hdg : decide ((j : Int) < (nG : Int)) = true := by simp; exact hgo
            have hwj : IntKind.i64.wrap ((j : Int) + 1) = (j : Int) + 1 := by rw [i64_w]; unfold wrap64; omega
            have hcf := HU.out.cf
            obtain ⟨lb, hlb⟩ : ∃ lb, lb = wr.heap.size := ⟨_, rfl⟩
            have hA : Below wr.heap.size wr (wr.alloc (.cells (linkCs l) 88)) := below_alloc (Below.refl _ _) _
            have hlbx : (wr.alloc (.cells (linkCs l) 88)).heap[lb]? = some (.cells (linkCs l) 88 (0, 0)) := by rw [hlb]; exact blk_new wr _
            have HLB := Aside0.mk hlb
            have HA := Aside0.mk (And.intro hA hlbx)
            obtain ⟨bb, hbb⟩ : ∃ bb, ub l = bb := ⟨_, rfl⟩
            have HCL : Aside0 (∀ W, Below w.heap.size w W → Calls Try.prog uf #[.agg (linkCs l), cap] W fun e w' => e = .returned (.tuple #[.int .i64 (ud l), .bool bb]) ∧ Below W.heap.size W w') := ⟨fun W hW => by rw [← hbb]; exact HU.out.calls W hW l hlm⟩
            have HBB := Aside0.mk hbb
            clear hl hlm hown hcell hA hlbx hbb hlb
            cases bb
            · go_wp2_with (first | (refine (HCL.out _ (below_step HJ.out.kp HA.out.1)).mono ?_; rintro e w7 ⟨rfl, hb⟩; have hb7 := below_step HA.out.1 hb; have HJ7 := Aside0.mk (HJ.out.keep hb7); have HBJ7 := Aside0.mk (And.intro (blk_below HBJ.out.1 hb7) HBJ.out.2); clear hb hb7))
              clear e0 e1 e2 e3 e4 e5
              go_roundw
              case rel =>
                refine ⟨j + 1, sv3, by go_num, by omega, ?_, HBJ7⟩
                rw [List.take_add_one, List.getElem?_eq_getElem hjl, Option.toList_some, ← HLL.out.1, pushAll_snoc]
                have : ueOf ud ub l = none := by unfold ueOf; rw [HBB.out]; rfl
                rw [this]
                exact HJ7
              case measure => simp [intOf]; omega
            · have hue : ueOf ud ub l = some (ud l) := by unfold ueOf; rw [HBB.out]; rfl
              have hdb := HE.out.d l HLL.out.2 _ hue
              have hwt : IntKind.i64.wrap (t + ud l) = t + ud l := by rw [i64_w]; unfold wrap64; omega
              have HUE := Aside0.mk hue
              have hlen : (pushAll (ueOf ud ub) t (takeRest h) ((grp ls v).take j)).length ≤ 100000 := by
                have h1 := pushAll_len (ueOf ud ub) t ((grp ls v).take j) (takeRest h)
                have h2 := (take_all h HD.out.ok HN.out.2).2.2
                have h3 := HK.out.2
                have h4 : nn * (ls.length + 2) ≤ 64 * 258 := Nat.mul_le_mul hn64 (by have := HLS.out; omega)
                rw [List.length_take] at h1
                omega
              have HLEN := Aside0.mk hlen
              clear hue hdb hlen
              go_wp2_with (first | (refine (HCL.out _ (below_step HJ.out.kp HA.out.1)).mono ?_; rintro e w7 ⟨rfl, hb⟩; have hb7 := below_step HA.out.1 hb; have HJ7 := Aside0.mk (HJ.out.keep hb7); have HBJ7 := Aside0.mk (And.intro (blk_below HBJ.out.1 hb7) HBJ.out.2); have d0 : w7.cell? ⟨wr.heap.size, 1, none⟩ = some (.int .i64 l.f1) := (by rw [← HLB.out]; exact blk_cell (blk_below HA.out.2 hb) 1); have d1 : w7.cell? ⟨bv, 1, none⟩ = some (.int .i64 t) := blk_cell HBJ7.out.1 1; clear hb hb7 e0 e1 e2 e3 e4 e5) | (go_at_call 120; refine (put_calls gh w.heap.size sv3 (pushAll (ueOf ud ub) t (takeRest h) ((grp ls v).take j)) l.f1 (t + ud l) _ HJ7.out.hp HJ7.out.kp.size HLEN.out).mono ?_; rintro e w8 ⟨rfl, hp⟩; clear d0 d1))
              obtain ⟨sv4, hI8, hso8, hk8⟩ := HJ7.out.put hp
              have hbn : bv ≠ gh := fun e => by
                have a := HBJ7.out.1; have c := HJ7.out.hp.blk; rw [e, c] at a; simp at a
              have hb8 : w8.heap[bv]? = some (.cells #[.int .i64 (v : Int), .int .i64 t] 214 (0, 0)) := hk8.blk HBJ7.out.1 (fun e => e.elim hbn (fun e => HBJ7.out.2 bv e.symm rfl))
              have hn8 : ∀ k, sv4.ownBlock = some k → k ≠ bv := fun k hk e => by
                rcases hso8 k hk with h | h
                · exact HBJ7.out.2 k h e
                · have := blk_lt HBJ7.out.1; omega
              have HI8 := Aside0.mk hI8
              have HB8 := Aside0.mk (And.intro hb8 hn8)
              clear hI8 hso8 hk8 hbn hb8 hn8 hp
              go_roundw
              case rel =>
                refine ⟨j + 1, sv4, by go_num, by omega, ?_, HB8⟩
                rw [List.take_add_one, List.getElem?_eq_getElem hjl, Option.toList_some, ← HLL.out.1, pushAll_snoc, HUE.out]
                exact HI8
              case measure => simp [intOf]; omega
          · obtain rfl : j = nG := by omega
            clear hj hgo
            go_wp2
            have hs := HSET.out
            rw [Int.toNat_natCast] at hs
            have hlen := pushAll_len (ueOf ud ub) t (grp ls v) (takeRest h)
            have h2 := (take_all h HD.out.ok HN.out.2).2.2
            have h3 := HK.out
            have h4 := grp_len ls v
            obtain ⟨a, ha⟩ : ∃ a, nn - setd o = a + 1 := ⟨nn - setd o - 1, by omega⟩
            rw [ha, Nat.succ_mul] at h3
            have ha2 : nn - setd (o.set v t) = a := by rw [hs.2.1]; omega
            go_roundg (a * (ls.length + 2) + (pushAll (ueOf ud ub) t (takeRest h) (grp ls v)).length)
            case measure => rw [h3.1]; omega
            case rel =>
              refine ⟨o.set v t, pushAll (ueOf ud ub) t (takeRest h) (grp ls v), sv3, ⟨by rw [ha2], by rw [ha2]; omega⟩, ?_, ⟨hs.2.2.2⟩⟩
              have := HJ
              rw [HNG.out.1, List.take_length] at this
              exact this
end Go.Proofs.Ytgmglpnoppcnkaa
end
section
namespace Go.Proofs.Ytgmglpnoppcnkaa
open Go.RowKit Go.Proofs.YtgmglpnoppcnkaaW.PrintWords Go.Proofs.YtgmglpnoppcnkaaW.PrintLast Go.Proofs.YtgmglpnoppcnkaaW.PrintMore
set_option linter.unusedVariables false
set_option linter.unusedSimpArgs false
set_option maxRecDepth 100000
def ueLo (s : List Bool) : Lk → Option Int := ueOf (fun l => l.f2.f0) (fun l => !hasB s l.f3)
def ueHi (s : List Bool) : Lk → Option Int := ueOf (fun l => l.f2.f1) (fun l => l.f4 && !hasB s l.f3)
/-- A network and a start without an error. -/
structure StOk (nn : Nat) (uu : Int) (ls : List Lk) (sn lo hi : Int) : Prop where
  net : NetOk nn uu ls
  sn0 : 0 ≤ sn
  sn1 : sn < nn
  t : timedP lo hi
theorem startE_ok {nn uu : Int} {ls : List Lk} {sn lo hi : Int} (h : startE nn uu ls sn lo hi = 0) : ∃ n : Nat, nn = n ∧ StOk n uu ls sn lo hi := by
  unfold startE at h
  split at h
  · rename_i h0
    have hn := checkE_ok h0
    obtain ⟨n, rfl⟩ := Int.eq_ofNat_of_zero_le (show 0 ≤ nn by have := hn.n1; omega)
    split at h
    · rename_i h1
      split at h
      · rename_i h2
        exact ⟨n, rfl, hn, h1.1, by omega, h2⟩
      · omega
    · omega
  · rename_i h0; exact absurd h h0
theorem StOk.lo {nn : Nat} {uu : Int} {ls : List Lk} {sn lo hi : Int} (h : StOk nn uu ls sn lo hi) (s : List Bool) : EOk ls (ueLo s) sn lo nn := by
  have h2 := h.net.n2
  have ht := h.t
  unfold timedP at ht
  refine ⟨by omega, ⟨h.sn0, h.sn1⟩, by omega, fun l hl => ⟨(h.net.links l hl).1, (h.net.links l hl).2.1⟩, fun l hl d hd => ?_⟩
  unfold ueLo ueOf at hd
  split at hd
  · simp only [Option.some.injEq] at hd
    have := (h.net.links l hl).2.2.2.2
    unfold timedP at this
    omega
  · cases hd
theorem StOk.hi {nn : Nat} {uu : Int} {ls : List Lk} {sn lo hi : Int} (h : StOk nn uu ls sn lo hi) (s : List Bool) : EOk ls (ueHi s) sn hi nn := by
  have h2 := h.net.n2
  have ht := h.t
  unfold timedP at ht
  refine ⟨by omega, ⟨h.sn0, h.sn1⟩, by omega, fun l hl => ⟨(h.net.links l hl).1, (h.net.links l hl).2.1⟩, fun l hl d hd => ?_⟩
  unfold ueHi ueOf at hd
  split at hd
  · simp only [Option.some.injEq] at hd
    have := (h.net.links l hl).2.2.2.2
    unfold timedP at this
    omega
  · cases hd
theorem callFunc_enter {f : FuncId} {fn : Func} {c : Code} (hf : Try.prog.funcs[f]? = some fn) (hname : (fn.name == "runtime.NumGoroutine") = false) (hb : fn.body = some c) (args : Array Value) (w : World) :
    (callFunc f args).run Try.prog w = .ok (.enter f args) w := by
  have h1 : ¬ fn.name = "runtime.NumGoroutine" := by simpa using hname
  simp [callFunc, hf, h1, hb]
/-- What first and last return: a row of least times. -/
def RowPost (w : World) (nn : Nat) (ls : List Lk) (ue : Lk → Option Int) (sn b : Int) (e : Ending) (w' : World) : Prop :=
  ∃ g o, e = .returned (.slice (some ⟨g, 0, none⟩) nn nn) ∧ w.heap.size ≤ g ∧ w'.heap[g]? = some (.cells (intsCs o) 3 (0, 0)) ∧ LeastAt ls ue sn b nn o ∧ Below w.heap.size w w'
set_option maxHeartbeats 1000000 in
theorem first_calls (wp B nn : Nat) (uu : Int) (sv0 : Value) (sn lo hi : Int) (ls : List Lk) (s : List Bool) (w : World) (hw : WebAt w B wp nn uu sv0 sn lo hi ls) (hs : s.length = 20) (hO : StOk nn uu ls sn lo hi) :
    Calls Try.prog 56 #[.pointer (some ⟨wp, 0, none⟩), .agg (setCs s).toArray] w (RowPost w nn ls (ueLo s) sn lo) := by
  have HW := Aside0.mk hw
  have HO := Aside0.mk hO
  have HS := Aside0.mk hs
  clear hw hO hs
  go_enter Try.func56, Try.ntmps56
  go_wp2_with ((with_reducible refine gate_dst (N := 3) rfl ?_); refine hold ?_)
  refine box_event rfl (N := 3) rfl (cs := (setCs s).toArray) (t := 144) (by go_simp) ?_
  intro bs hbs w1 hb1 hB1
  have HB1 := Aside0.mk hB1
  have hW1 := HW.out.below hB1
  have HW1 := Aside0.mk hW1
  obtain ⟨h0, m, L, cl, hweb, -, -⟩ := hW1
  have c0 : w1.cell? ⟨wp, 4, none⟩ = some (.int .i64 lo) := blk_cell hweb 4
  have HU : Aside0 (UsedAt w1 105 (.pointer (some ⟨bs, 0, none⟩)) ls (fun l => l.f2.f0) (fun l => !hasB s l.f3)) := by
    refine ⟨⟨callFunc_enter Try.func105 (by kernel_rfl) rfl, fun W hW l hl => ?_⟩⟩
    have hbW := blk_below hb1 hW
    have hu := (HO.out.net.links l hl).2.2.1
    have h20 := HO.out.net.u2
    refine first1_calls s l bs W HS.out (by omega) (by omega) ?_ (blk_lt hbW)
    intro j v hj
    rw [Nat.zero_add, blk_cell hbW j]
    simpa using hj
  clear hb1 hB1 hweb hbs h0
  have hn1 : 1 ≤ nn := by have := HO.out.net.n1; omega
  go_wp2_with (first | (go_at_call 104; refine (least_calls wp B nn uu sv0 sn lo hi ls lo 105 (.pointer (some ⟨bs, 0, none⟩)) (fun l => l.f2.f0) (fun l => !hasB s l.f3) _ HW1.out (HO.out.lo s) hn1 HO.out.net.len HU.out).mono ?_; rintro e w2 ⟨g, o, rfl, hg, hgb, hlo, hb2⟩; have HP := Aside0.mk (And.intro hg (And.intro hgb (And.intro hlo hb2))); clear hg hgb hlo hb2))
  go_ret
  obtain ⟨hg, hgb, hlo, hb2⟩ := HP.out
  exact ⟨g, o, rfl, by have := HB1.out.size; omega, hgb, hlo, below_step HB1.out hb2⟩
set_option maxHeartbeats 1000000 in
theorem last_calls (wp B nn : Nat) (uu : Int) (sv0 : Value) (sn lo hi : Int) (ls : List Lk) (s : List Bool) (w : World) (hw : WebAt w B wp nn uu sv0 sn lo hi ls) (hs : s.length = 20) (hO : StOk nn uu ls sn lo hi) :
    Calls Try.prog 74 #[.pointer (some ⟨wp, 0, none⟩), .agg (setCs s).toArray] w (RowPost w nn ls (ueHi s) sn hi) := by
  have HW := Aside0.mk hw
  have HO := Aside0.mk hO
  have HS := Aside0.mk hs
  clear hw hO hs
  go_enter Try.func74, Try.ntmps74
  go_wp2_with ((with_reducible refine gate_dst (N := 3) rfl ?_); refine hold ?_)
  refine box_event rfl (N := 3) rfl (cs := (setCs s).toArray) (t := 144) (by go_simp) ?_
  intro bs hbs w1 hb1 hB1
  have HB1 := Aside0.mk hB1
  have hW1 := HW.out.below hB1
  have HW1 := Aside0.mk hW1
  obtain ⟨h0, m, L, cl, hweb, -, -⟩ := hW1
  have c0 : w1.cell? ⟨wp, 5, none⟩ = some (.int .i64 hi) := blk_cell hweb 5
  have HU : Aside0 (UsedAt w1 116 (.pointer (some ⟨bs, 0, none⟩)) ls (fun l => l.f2.f1) (fun l => l.f4 && !hasB s l.f3)) := by
    refine ⟨⟨callFunc_enter Try.func116 (by kernel_rfl) rfl, fun W hW l hl => ?_⟩⟩
    have hbW := blk_below hb1 hW
    have hu := (HO.out.net.links l hl).2.2.1
    have h20 := HO.out.net.u2
    refine last1_calls s l bs W HS.out (by omega) (by omega) ?_ (blk_lt hbW)
    intro j v hj
    rw [Nat.zero_add, blk_cell hbW j]
    simpa using hj
  clear hb1 hB1 hweb hbs h0
  have hn1 : 1 ≤ nn := by have := HO.out.net.n1; omega
  go_wp2_with (first | (go_at_call 104; refine (least_calls wp B nn uu sv0 sn lo hi ls hi 116 (.pointer (some ⟨bs, 0, none⟩)) (fun l => l.f2.f1) (fun l => l.f4 && !hasB s l.f3) _ HW1.out (HO.out.hi s) hn1 HO.out.net.len HU.out).mono ?_; rintro e w2 ⟨g, o, rfl, hg, hgb, hlo, hb2⟩; have HP := Aside0.mk (And.intro hg (And.intro hgb (And.intro hlo hb2))); clear hg hgb hlo hb2))
  go_ret
  obtain ⟨hg, hgb, hlo, hb2⟩ := HP.out
  exact ⟨g, o, rfl, by have := HB1.out.size; omega, hgb, hlo, below_step HB1.out hb2⟩
end Go.Proofs.Ytgmglpnoppcnkaa
end
section
namespace Go.Proofs.Ytgmglpnoppcnkaa
open Go.RowKit Go.Proofs.YtgmglpnoppcnkaaW.PrintWords Go.Proofs.YtgmglpnoppcnkaaW.PrintLast Go.Proofs.YtgmglpnoppcnkaaW.PrintMore
set_option linter.unusedVariables false
set_option linter.unusedSimpArgs false
set_option maxRecDepth 100000
/-- The numbers from i on of the states that are s. -/
def withFrom (s : Int) : Nat → List Int → List Int
  | _, [] => []
  | i, x :: r => if x = s then (i : Int) :: withFrom s (i + 1) r else withFrom s (i + 1) r
def fineL (st : List Int) : List Int := withFrom 1 0 st
def goneB (st : List Int) : List Bool := (List.range 20).map (fun u => decide (st[u]? = some 3))
def looseB (st : List Int) : List Bool := (List.range 20).map (fun u => decide (st[u]? = some 2) || decide (st[u]? = some 3))
theorem withFrom_snoc (s : Int) (l : List Int) : ∀ (i : Nat) (x : Int), withFrom s i (l ++ [x]) = if x = s then withFrom s i l ++ [((i + l.length : Nat) : Int)] else withFrom s i l := by
  induction l with
  | nil => intro i x; simp [withFrom]
  | cons y r ih =>
    intro i x
    simp only [List.cons_append, withFrom, ih, List.length_cons]
    rw [show i + 1 + r.length = i + (r.length + 1) by omega]
    by_cases h : x = s <;> by_cases h2 : y = s <;> simp [h, h2]
theorem fineL_snoc (l : List Int) (x : Int) : fineL (l ++ [x]) = if x = 1 then fineL l ++ [(l.length : Int)] else fineL l := by
  unfold fineL
  rw [withFrom_snoc, Nat.zero_add]
theorem goneB_len (st : List Int) : (goneB st).length = 20 := by simp [goneB]
theorem looseB_len (st : List Int) : (looseB st).length = 20 := by simp [looseB]
theorem snoc_get (l : List Int) (x : Int) (u : Nat) : (l ++ [x])[u]? = if u = l.length then some x else l[u]? := by
  rw [List.getElem?_append]
  split
  · rename_i h; rw [if_neg (by omega)]
  · rename_i h
    split
    · rename_i h2; subst h2; simp
    · rw [List.getElem?_eq_none (by simp; omega), List.getElem?_eq_none (by omega)]
theorem goneB_get (st : List Int) (u : Nat) : (goneB st)[u]? = if u < 20 then some (decide (st[u]? = some 3)) else none := by
  unfold goneB
  rw [List.getElem?_map]
  by_cases h : u < 20
  · rw [if_pos h, List.getElem?_range h]; rfl
  · rw [if_neg h, List.getElem?_eq_none (by simp; omega)]; rfl
theorem looseB_get (st : List Int) (u : Nat) : (looseB st)[u]? = if u < 20 then some (decide (st[u]? = some 2) || decide (st[u]? = some 3)) else none := by
  unfold looseB
  rw [List.getElem?_map]
  by_cases h : u < 20
  · rw [if_pos h, List.getElem?_range h]; rfl
  · rw [if_neg h, List.getElem?_eq_none (by simp; omega)]; rfl
theorem goneB_snoc (l : List Int) (x : Int) (hl : l.length < 20) : goneB (l ++ [x]) = if x = 3 then (goneB l).set l.length true else goneB l := by
  apply List.ext_getElem?
  intro u
  rw [goneB_get, snoc_get]
  have hn : l[l.length]? = none := by simp
  by_cases h : x = 3
  · rw [if_pos h, List.getElem?_set, goneB_len, goneB_get]
    by_cases hu : u = l.length
    · subst hu; simp [hl, h]
    · rw [if_neg hu, if_neg (Ne.symm hu)]
  · rw [if_neg h, goneB_get]
    by_cases hu : u = l.length
    · subst hu; simp [h]
    · rw [if_neg hu]
theorem looseB_snoc (l : List Int) (x : Int) (hl : l.length < 20) : looseB (l ++ [x]) = if x = 2 ∨ x = 3 then (looseB l).set l.length true else looseB l := by
  apply List.ext_getElem?
  intro u
  rw [looseB_get, snoc_get]
  by_cases h : x = 2 ∨ x = 3
  · rw [if_pos h, List.getElem?_set, looseB_len, looseB_get]
    by_cases hu : u = l.length
    · subst hu
      rcases h with h | h <;> simp [hl, h]
    · rw [if_neg hu, if_neg (Ne.symm hu)]
  · rw [if_neg h, looseB_get]
    have h2 : x ≠ 2 := fun e => h (.inl e)
    have h3 : x ≠ 3 := fun e => h (.inr e)
    by_cases hu : u = l.length
    · subst hu; simp [h2, h3]
    · rw [if_neg hu]
theorem weave_ok (nn uu : Int) (A : Option Addr) (c : Nat) (ls : List Lk) (sn lo hi : Int) (w : World) (hr : Kd.C PB.k88 w A ls.length ls) (hc : ls.length ≤ c) (h : startE nn uu ls sn lo hi = 0) :
    Calls Try.prog 68 #[.agg #[.int .i64 nn, .int .i64 uu, .slice A ls.length c], .agg #[.int .i64 sn, .int .i64 lo, .int .i64 hi]] w fun e w' => ∃ wp, e = .returned (.tuple #[.pointer (some ⟨wp, 0, none⟩), .int .i64 0]) ∧ Below w.heap.size w w' ∧ WebAt w' w.heap.size wp nn uu (.slice A ls.length c) sn lo hi ls :=
  (weave_calls nn uu A c ls sn lo hi w hr hc).mono fun e w' ⟨hb, hx⟩ => by
    rcases hx with ⟨hne, _⟩ | ⟨_, wp, he, hw⟩
    · exact absurd h hne
    · exact ⟨wp, he, hb, hw⟩
theorem weave_err (nn uu : Int) (A : Option Addr) (c : Nat) (ls : List Lk) (sn lo hi : Int) (w : World) (hr : Kd.C PB.k88 w A ls.length ls) (hc : ls.length ≤ c) (h : startE nn uu ls sn lo hi ≠ 0) :
    Calls Try.prog 68 #[.agg #[.int .i64 nn, .int .i64 uu, .slice A ls.length c], .agg #[.int .i64 sn, .int .i64 lo, .int .i64 hi]] w fun e w' => e = .returned (.tuple #[.pointer none, .int .i64 (startE nn uu ls sn lo hi)]) ∧ Below w.heap.size w w' :=
  (weave_calls nn uu A c ls sn lo hi w hr hc).mono fun e w' ⟨hb, hx⟩ => by
    rcases hx with ⟨_, he⟩ | ⟨hne, _⟩
    · exact ⟨he, hb⟩
    · exact absurd hne h
/-- The cells of a network with states. -/
def careCs (wp : Nat) (fv : Value) (gone loose : List Bool) : List Value := .pointer (some ⟨wp, 0, none⟩) :: fv :: (setCs gone ++ setCs loose)
theorem careCs_gone (wp : Nat) (fv : Value) (gone loose : List Bool) (j : Nat) (hj : j < gone.length) : (careCs wp fv gone loose)[2 + j]? = some (.bool gone[j]) := by
  rw [careCs, show 2 + j = j + 1 + 1 by omega, List.getElem?_cons_succ, List.getElem?_cons_succ, List.getElem?_append_left (by rw [setCs_length]; exact hj)]
  simp [setCs, hj]
theorem careCs_loose (wp : Nat) (fv : Value) (gone loose : List Bool) (hg : gone.length = 20) (j : Nat) (hj : j < loose.length) : (careCs wp fv gone loose)[22 + j]? = some (.bool loose[j]) := by
  rw [careCs, show 22 + j = (20 + j) + 1 + 1 by omega, List.getElem?_cons_succ, List.getElem?_cons_succ, List.getElem?_append_right (by rw [setCs_length]; omega), setCs_length, hg]
  simp [setCs, hj]
theorem careCs_setGone (wp : Nat) (fv : Value) (gone loose : List Bool) (j : Nat) (hj : j < gone.length) (b : Bool) : (careCs wp fv gone loose).set (2 + j) (.bool b) = careCs wp fv (gone.set j b) loose := by
  rw [careCs, show 2 + j = j + 1 + 1 by omega, List.set_cons_succ, List.set_cons_succ, List.set_append_left _ _ (by rw [setCs_length]; exact hj)]
  simp [setCs, careCs, List.map_set]
theorem careCs_setLoose (wp : Nat) (fv : Value) (gone loose : List Bool) (hg : gone.length = 20) (j : Nat) (b : Bool) : (careCs wp fv gone loose).set (22 + j) (.bool b) = careCs wp fv gone (loose.set j b) := by
  rw [careCs, show 22 + j = (20 + j) + 1 + 1 by omega, List.set_cons_succ, List.set_cons_succ, List.set_append_right _ _ (by rw [setCs_length]; omega), setCs_length, hg]
  simp [setCs, careCs, List.map_set]
theorem careCs_setFine (wp : Nat) (fv fv' : Value) (gone loose : List Bool) : (careCs wp fv gone loose).set 1 fv' = careCs wp fv' gone loose := rfl
def ints (l : List Int) : List Value := l.map (Value.int .i64)
/-- A network with a start and states lies at cb. -/
def CareAt (w : World) (B cb : Nat) (nn uu : Int) (sv : Value) (sn lo hi : Int) (ls : List Lk) (st : List Int) : Prop :=
  ∃ wp fv, B ≤ cb ∧ w.heap[cb]? = some (.cells (careCs wp fv (goneB st) (looseB st)).toArray 146 (0, 0)) ∧ w.ownsRow B 3 1 fv (fineL st).length (ints (fineL st)) ∧ WebAt w B wp nn uu sv sn lo hi ls
theorem int_get {w : World} {A : Option Addr} {st : List Int} (h : Kd.C (Kd.int .i64) w A st.length st) (i : Nat) (hi : i < st.length) : ∃ ad, A = some ad ∧ w.cell? (ad.add i) = some (.int .i64 st[i]) := by
  obtain ⟨ad, c, e, hl, hk, hc⟩ := Kd.C_get h 0 (i : Int) (by omega) (by omega)
  refine ⟨ad, e, ?_⟩
  have hk' : c = [.int .i64 (st.getD (i : Int).toNat 0)] := hk
  have := hc 0 (.int .i64 st[i]) (by rw [hk']; simp [List.getD_eq_getElem?_getD, List.getElem?_eq_getElem hi])
  have e2 : (Kd.int .i64).sz = 1 := rfl
  rw [e2, Int.toNat_natCast, Nat.mul_one, Nat.add_zero] at this
  exact this
/-- At the head of cared's loop. -/
structure CInv (w3 : World) (wp cb : Nat) (st : List Int) (i : Nat) (fv : Value) (wr : World) : Prop where
  kp : Below w3.heap.size w3 wr
  blk : wr.heap[cb]? = some (.cells (careCs wp fv (goneB (st.take i)) (looseB (st.take i))).toArray 146 (0, 0))
  own : wr.ownsRow w3.heap.size 3 1 fv (fineL (st.take i)).length (ints (fineL (st.take i)))
  cge : w3.heap.size ≤ cb
section
variable {w3 wr W : World} {wp cb i : Nat} {st : List Int} {fv : Value}
theorem CInv.keep (h : CInv w3 wp cb st i fv wr) (hb : Below wr.heap.size wr W) : CInv w3 wp cb st i fv W :=
  ⟨below_step h.kp hb, blk_below h.blk hb, own_move h.own (fun k hk => hb.block k (own_lt h.own k hk)), h.cge⟩
theorem st_take (hi : i < st.length) : st.take (i + 1) = st.take i ++ [st[i]] := by
  rw [List.take_add_one, List.getElem?_eq_getElem hi]; rfl
theorem CInv.fvne (h : CInv w3 wp cb st i fv wr) : fv.ownBlock ≠ some cb := own_ne h.blk h.own (by decide)
theorem CInv.loose (h : CInv w3 wp cb st i fv wr) (hi : i < st.length) (h20 : st.length ≤ 20) (hx : st[i] = 2) : CInv w3 wp cb st (i + 1) fv (wr.setCell ⟨cb, 22 + i, none⟩ (.bool true)) := by
  have hl : (st.take i).length = i := by rw [List.length_take]; omega
  refine ⟨h.kp.trans ((Kp.setCell wr cb (22 + i) (.bool true)).below h.kp.size (fun j e => by rw [e]; exact h.cge)), ?_, ?_, h.cge⟩
  · have := blk_set h.blk (22 + i) (.bool true)
    rw [this, List.setIfInBounds_toArray, careCs_setLoose _ _ _ _ (goneB_len _), st_take hi, hx, goneB_snoc _ _ (by omega), looseB_snoc _ _ (by omega), hl]
    simp
  · rw [st_take hi, hx, fineL_snoc, if_neg (by decide)]
    exact own_move h.own (fun k hk => Below.heap_setCell _ _ _ _ (fun e => h.fvne (by rw [hk, e])))
theorem CInv.gone (h : CInv w3 wp cb st i fv wr) (hi : i < st.length) (h20 : st.length ≤ 20) (hx : st[i] = 3) : CInv w3 wp cb st (i + 1) fv ((wr.setCell ⟨cb, 2 + i, none⟩ (.bool true)).setCell ⟨cb, 22 + i, none⟩ (.bool true)) := by
  have hl : (st.take i).length = i := by rw [List.length_take]; omega
  have k1 := (Kp.setCell wr cb (2 + i) (.bool true)).below h.kp.size (fun j e => by rw [e]; exact h.cge)
  have k2 := (Kp.setCell (wr.setCell ⟨cb, 2 + i, none⟩ (.bool true)) cb (22 + i) (.bool true)).below (h.kp.trans k1).size (fun j e => by rw [e]; exact h.cge)
  refine ⟨(h.kp.trans k1).trans k2, ?_, ?_, h.cge⟩
  · have b1 := blk_set h.blk (2 + i) (.bool true)
    have b2 := blk_set b1 (22 + i) (.bool true)
    rw [b2, List.setIfInBounds_toArray, List.setIfInBounds_toArray, careCs_setGone _ _ _ _ _ (by rw [goneB_len]; omega), careCs_setLoose _ _ _ _ (by rw [List.length_set, goneB_len]), st_take hi, hx, goneB_snoc _ _ (by omega), looseB_snoc _ _ (by omega), hl]
    simp
  · rw [st_take hi, hx, fineL_snoc, if_neg (by decide)]
    refine own_move h.own (fun k hk => ?_)
    have hn : k ≠ cb := fun e => h.fvne (by rw [hk, e])
    rw [Below.heap_setCell _ _ _ _ hn, Below.heap_setCell _ _ _ _ hn]
/-- Behind the append. -/
theorem CInv.app {w5 : World} {g cap : Nat} (h : CInv w3 wp cb st i fv W) (ho : w5.ownsRow w3.heap.size 3 1 (.slice (some ⟨g, 0, none⟩) ((fineL (st.take i)).length + 1) cap) ((fineL (st.take i)).length + 1) (ints (fineL (st.take i)) ++ [.int .i64 i])) (hg : W.grownBy w5 fv.ownBlock) (hi : i < st.length) (hx : st[i] = 1) (h20 : st.length ≤ 20) :
    w5.cell? ⟨cb, 1, none⟩ = some fv ∧ w5.frozen? ⟨cb, 1, none⟩ = false ∧ CInv w3 wp cb st (i + 1) (.slice (some ⟨g, 0, none⟩) ((fineL (st.take i)).length + 1) cap) (w5.setCell ⟨cb, 1, none⟩ (.slice (some ⟨g, 0, none⟩) ((fineL (st.take i)).length + 1) cap)) := by
  have hl : (st.take i).length = i := by rw [List.length_take]; omega
  have hb5 := blk_grown h.blk hg (fun e => h.fvne e.symm)
  have hne : g ≠ cb := fun e => own_ne hb5 ho (by decide) (by simp [Value.ownBlock, e])
  have hk5 : Below w3.heap.size w3 w5 := h.kp.trans ((Kp.grown hg).below h.kp.size (fun k hk => own_base h.own k hk.symm))
  refine ⟨blk_cell hb5 1, blk_frozen hb5 1, hk5.trans ((Kp.setCell w5 cb 1 _).below hk5.size (fun j e => by rw [e]; exact h.cge)), ?_, ?_, h.cge⟩
  · have := blk_set hb5 1 (.slice (some ⟨g, 0, none⟩) ((fineL (st.take i)).length + 1) cap)
    rw [this, List.setIfInBounds_toArray, careCs_setFine, st_take hi, hx, goneB_snoc _ _ (by omega), looseB_snoc _ _ (by omega)]
    simp
  · rw [st_take hi, hx, fineL_snoc, if_pos rfl, hl]
    refine own_move (w := w5) ?_ (fun k hk => ?_)
    · simpa [ints] using ho
    · have : g = k := by simpa [Value.ownBlock] using hk
      subst this
      exact Below.heap_setCell _ _ _ _ hne
end
theorem info3 : (Try.prog.info? 3).map (fun i => (i.zero, i.size, i.bytes)) = some (some (.int .i64 0), 1, 8) := by kernel_rfl
theorem withFrom_len (s : Int) (l : List Int) : ∀ i, (withFrom s i l).length ≤ l.length := by
  induction l with
  | nil => intro i; exact Nat.le_refl _
  | cons x r ih =>
    intro i
    simp only [withFrom, List.length_cons]
    have := ih (i + 1)
    split
    · simp only [List.length_cons]; omega
    · omega
/-- A state is one of the three. -/
def stGood (x : Int) : Prop := x = 1 ∨ x = 2 ∨ x = 3
instance (x : Int) : Decidable (stGood x) := by unfold stGood; infer_instance
/-- The error of a network, a start, states and f. -/
def validE (nn uu : Int) (ls : List Lk) (sn lo hi : Int) (st : List Int) (f : Int) : Int :=
  if startE nn uu ls sn lo hi = 0 then (if (st.length : Int) = uu then (if ∀ x ∈ st, stGood x then (if 0 ≤ f ∧ f ≤ 3 then 0 else 3) else 2) else 11) else startE nn uu ls sn lo hi
def CaredPost (w : World) (nn uu : Int) (sv : Value) (ls : List Lk) (sn lo hi : Int) (st : List Int) (f : Int) (e : Ending) (w' : World) : Prop :=
  Below w.heap.size w w' ∧
  ((validE nn uu ls sn lo hi st f ≠ 0 ∧ e = .returned (.tuple #[.pointer none, .int .i64 (validE nn uu ls sn lo hi st f)])) ∨
   (validE nn uu ls sn lo hi st f = 0 ∧ ∃ cb, e = .returned (.tuple #[.pointer (some ⟨cb, 0, none⟩), .int .i64 0]) ∧ CareAt w' w.heap.size cb nn uu sv sn lo hi ls st))
set_option maxHeartbeats 4000000 in
theorem cared_calls (nn uu : Int) (A : Option Addr) (c : Nat) (ls : List Lk) (sn lo hi : Int) (A2 : Option Addr) (c2 : Nat) (st : List Int) (f : Int) (w : World)
    (hr : Kd.C PB.k88 w A ls.length ls) (hc : ls.length ≤ c) (hr2 : Kd.C (Kd.int .i64) w A2 st.length st) (hc2 : st.length ≤ c2) :
    Calls Try.prog 54 #[.agg #[.int .i64 nn, .int .i64 uu, .slice A ls.length c], .agg #[.int .i64 sn, .int .i64 lo, .int .i64 hi], .slice A2 st.length c2, .int .i64 f] w (CaredPost w nn uu (.slice A ls.length c) ls sn lo hi st f) := by
  obtain ⟨i3, hi3, hy0, hy1, hy2⟩ := info_parts info3
  have HR := Aside0.mk hr
  have HC := Aside0.mk hc
  have HR2 := Aside0.mk hr2
  have HC2 := Aside0.mk hc2
  clear hr hc hr2 hc2
  go_enter Try.func54, Try.ntmps54
  go_wp2_with ((with_reducible refine gate_dst (N := 4) rfl ?_); refine hold ?_)
  refine box_event rfl (N := 4) rfl (cs := #[.int .i64 nn, .int .i64 uu, .slice A ls.length c]) (t := 32) (by go_simp) ?_
  intro bn hbn w1 hb1 hB1
  have HB1 := Aside0.mk hB1
  have Hb1 := Aside0.mk hb1
  clear hbn hB1 hb1
  go_wp2_with ((with_reducible refine gate_dst (N := 5) rfl ?_); refine hold ?_)
  refine box_event rfl (N := 5) rfl (cs := #[.int .i64 sn, .int .i64 lo, .int .i64 hi]) (t := 43) (by go_simp) ?_
  intro bs hbs w2 hb2 hB2
  have HB2 := Aside0.mk (below_step HB1.out hB2)
  have hb1' := blk_below Hb1.out hB2
  have HCC : Aside0 (∀ W, Below w2.heap.size w2 W → W.heap[bn]? = some (.cells #[.int .i64 nn, .int .i64 uu, .slice A ls.length c] 32 (0, 0))) := ⟨fun W h => blk_below hb1' h⟩
  have C0 : w2.cell? ⟨bn, 0, none⟩ = some (.int .i64 nn) := blk_cell hb1' 0
  have C1 : w2.cell? ⟨bn, 1, none⟩ = some (.int .i64 uu) := blk_cell hb1' 1
  have C2 : w2.cell? ⟨bn, 2, none⟩ = some (.slice A ls.length c) := blk_cell hb1' 2
  have C3 : w2.cell? ⟨bs, 0, none⟩ = some (.int .i64 sn) := blk_cell hb2 0
  have C4 : w2.cell? ⟨bs, 1, none⟩ = some (.int .i64 lo) := blk_cell hb2 1
  have C5 : w2.cell? ⟨bs, 2, none⟩ = some (.int .i64 hi) := blk_cell hb2 2
  clear hb1' hb2 hB2 Hb1 HB1 hbs
  by_cases h0 : startE nn uu ls sn lo hi = 0
  · have HS := Aside0.mk h0
    clear h0
    by_cases h1 : (st.length : Int) = uu
    · have hu : (((st.length : Int)) != uu) = false := by simpa using h1
      have hz0 : goneB [] = List.replicate 20 false := by decide
      have hz1 : looseB [] = List.replicate 20 false := by decide
      have HV := Aside0.mk (And.intro h1 (And.intro hz0 hz1))
      clear h1 hz0 hz1
      go_wp2_with (first | (go_at_call 68; refine ((weave_ok nn uu A c ls sn lo hi _ (Kd.C_below HR.out HB2.out) HC.out HS.out).mono ?_); rintro e w3 ⟨wp, rfl, hb, hwp⟩; have HB3 := Aside0.mk (below_step HB2.out hb); have HWP := Aside0.mk hwp; have D1 : w3.cell? ⟨bn, 1, none⟩ = some (.int .i64 uu) := blk_cell (HCC.out _ hb) 1; clear hb hwp C0 C1 C2 C3 C4 C5) | ((with_reducible refine gate_dst (N := 33) rfl ?_); refine hold ?_))
      refine box_event rfl (N := 33) rfl (cs := (careCs wp (.slice none 0 0) (List.replicate 20 false) (List.replicate 20 false)).toArray) (t := 146) (by go_simp; rfl) ?_
      intro cb hcb w4 hb4 hB4
      have HI0 : Aside0 (CInv w3 wp cb st 0 (.slice none 0 0) w4) := by
        refine ⟨⟨hB4, ?_, ?_, by omega⟩⟩
        · rw [List.take_zero, HV.out.2.1, HV.out.2.2]; exact hb4
        · rw [List.take_zero]; exact ⟨rfl, .inl ⟨rfl, rfl⟩⟩
      have h20 : st.length ≤ 20 := by
        have h1 := HV.out.1
        obtain ⟨n, e, hO⟩ := startE_ok HS.out
        have := hO.net.u2
        omega
      clear hcb hb4 hB4 D1 HCC hu
      go_wp2
      go_loopw [36] (fun v wr => ∃ (i : Nat) (fv : Value), v = .int .i64 i ∧ i ≤ st.length ∧ Aside0 (CInv w3 wp cb st i fv wr) ∧ Aside0 (∀ x ∈ st.take i, stGood x)) (fun v _ => st.length - (intOf v).toNat)
      case atStart => exact ⟨0, _, rfl, Nat.zero_le _, HI0, ⟨by simp⟩⟩
      case round =>
        obtain ⟨i, fv, rfl, hile, HI, HG⟩ := hrel
        clear HI0
        obtain ⟨wo, rfl⟩ : ∃ wo, wo = wr := ⟨_, rfl⟩
        by_cases hgo : i < st.length
        · have hwi : IntKind.i64.wrap ((i : Int) + 1) = (i : Int) + 1 := by rw [i64_w]; unfold wrap64; omega
          obtain ⟨x, hx⟩ : ∃ x, st[i] = x := ⟨_, rfl⟩
          obtain ⟨ad, rfl, e0⟩ := int_get (Kd.C_below HR2.out (below_step HB3.out HI.out.kp)) i hgo
          rw [hx] at e0
          have HX := Aside0.mk hx
          clear hx
          have HNX : stGood x → Aside0 (∀ y ∈ st.take (i + 1), stGood y) := fun hg => ⟨by
            rw [st_take hgo, HX.out]
            intro y hy
            rcases List.mem_append.1 hy with hy | hy
            · exact HG.out y hy
            · rw [List.mem_singleton.1 hy]; exact hg⟩
          by_cases h1 : x = 1
          · subst h1
            have HNG := HNX (.inl rfl)
            clear HNX
            have c0 : wo.cell? ⟨cb, 1, none⟩ = some fv := blk_cell HI.out.blk 1
            have hA : Below wo.heap.size wo (wo.alloc (.cells #[.int .i64 (i : Int)] 3)) := below_alloc (Below.refl _ _) _
            have HIA := Aside0.mk (HI.out.keep hA)
            have hnews : ∀ j u, [Value.int .i64 (i : Int)][j]? = some u → (wo.alloc (.cells #[.int .i64 (i : Int)] 3)).cell? ((⟨wo.heap.size, 0, none⟩ : Addr).add j) = some u := World.news_of_block (w := wo.alloc (.cells #[.int .i64 (i : Int)] 3)) (cs := #[.int .i64 (i : Int)]) (blk_new wo _)
            have HNW := Aside0.mk hnews
            have hfl : (fineL (st.take i)).length ≤ 20 := by
              have a := withFrom_len 1 (st.take i) 0
              rw [List.length_take] at a
              unfold fineL
              omega
            clear hA hnews
            go_wp2_with ((with_reducible refine gate_dst (N := 51) rfl ?_); refine hold ?_)
            refine wpList_append_lies _ rfl (.tmp 48) (.tmp 50) 33 rfl w3.heap.size 3 i3 _ 1 8 Try.underlying33 hi3 hy0 hy1 hy2 rfl (by decide) fv (fineL (st.take i)).length (ints (fineL (st.take i))) (by go_simp) HIA.out.own ⟨wo.heap.size, 0, none⟩ 1 1 [.int .i64 (i : Int)] (by go_simp) rfl HNW.out (by simp [Value.oneCell']) (by decide) (by unfold maxLen; omega) (by omega) HIA.out.kp.size _ rfl ?_
            intro g cap w5 hown5 hg5 hor hlt5
            obtain ⟨d0, d1, hI5⟩ := HIA.out.app hown5 hg5 hgo HX.out h20
            have HI5 := Aside0.mk hI5
            clear hown5 hg5 hor hlt5 hI5 e0 c0
            obtain ⟨N, hN⟩ : ∃ N, N = (fineL (st.take i)).length + 1 := ⟨_, rfl⟩
            rw [← hN] at HI5 ⊢
            clear hN hfl
            go_wp2
            clear d0 d1
            go_roundw
            case rel => exact ⟨i + 1, _, by go_num, by omega, HI5, HNG⟩
            case measure => simp [intOf]; omega
          · by_cases h2 : x = 2
            · subst h2
              have HNG := HNX (.inr (.inl rfl))
              have hc : (careCs wp fv (goneB (st.take i)) (looseB (st.take i)))[22 + i]? = some (.bool ((looseB (st.take i))[i]'(by rw [looseB_len]; omega))) := careCs_loose _ _ _ _ (goneB_len _) _ _
              have c0 : ∃ b, wo.cell? ⟨cb, 22 + i, none⟩ = some (.bool b) := ⟨_, by rw [blk_cell HI.out.blk (22 + i)]; simpa using hc⟩
              obtain ⟨b0, c0⟩ := c0
              have f0 : wo.frozen? ⟨cb, 22 + i, none⟩ = false := blk_frozen HI.out.blk (22 + i)
              have HI5 := Aside0.mk (HI.out.loose hgo h20 HX.out)
              have hi20 : i < 20 := by omega
              clear HNX hc
              go_wp2
              go_roundw
              case rel => exact ⟨i + 1, _, by go_num, by omega, HI5, HNG⟩
              case measure => simp [intOf]; omega
            · by_cases h3 : x = 3
              · subst h3
                have HNG := HNX (.inr (.inr rfl))
                have hc : (careCs wp fv (goneB (st.take i)) (looseB (st.take i)))[22 + i]? = some (.bool ((looseB (st.take i))[i]'(by rw [looseB_len]; omega))) := careCs_loose _ _ _ _ (goneB_len _) _ _
                have hc2 : (careCs wp fv (goneB (st.take i)) (looseB (st.take i)))[2 + i]? = some (.bool ((goneB (st.take i))[i]'(by rw [goneB_len]; omega))) := careCs_gone _ _ _ _ _ _
                have c0 : ∃ b, wo.cell? ⟨cb, 22 + i, none⟩ = some (.bool b) := ⟨_, by rw [blk_cell HI.out.blk (22 + i)]; simpa using hc⟩
                obtain ⟨b0, c0⟩ := c0
                have c1 : ∃ b, wo.cell? ⟨cb, 2 + i, none⟩ = some (.bool b) := ⟨_, by rw [blk_cell HI.out.blk (2 + i)]; simpa using hc2⟩
                obtain ⟨b1, c1⟩ := c1
                have f0 : wo.frozen? ⟨cb, 22 + i, none⟩ = false := blk_frozen HI.out.blk (22 + i)
                have f1 : wo.frozen? ⟨cb, 2 + i, none⟩ = false := blk_frozen HI.out.blk (2 + i)
                have HI5 := Aside0.mk (HI.out.gone hgo h20 HX.out)
                have hi20 : i < 20 := by omega
                clear HNX hc hc2
                go_wp2
                go_region
                have HI6 := Aside0.mk (HI5.out.keep (below_drew1 (Below.refl _ _)))
                clear HI5 c0 c1 f0 f1
                go_wp2
                go_roundw
                case rel => exact ⟨i + 1, _, by go_num, by omega, HI6, HNG⟩
                case measure => simp [intOf]; omega
              · have e1 : (x == 1) = false := by simpa using h1
                have e2 : (x == 2) = false := by simpa using h2
                have e3 : (x == 3) = false := by simpa using h3
                have HE : Aside0 (validE nn uu ls sn lo hi st f = 2) := ⟨by
                  unfold validE
                  rw [if_pos HS.out, if_pos HV.out.1, if_neg]
                  intro hall
                  have := hall x (by rw [← HX.out]; exact List.getElem_mem hgo)
                  unfold stGood at this
                  omega⟩
                clear h1 h2 h3 HNX
                go_wp2
                go_ret2
                exact ⟨below_step HB3.out HI.out.kp, .inl ⟨by rw [HE.out]; decide, by rw [HE.out]; rfl⟩⟩
        · obtain rfl : i = st.length := by omega
          clear hile hgo
          have hall : ∀ x ∈ st, stGood x := by
            have := HG.out
            rw [List.take_length] at this
            exact this
          by_cases hf : 0 ≤ f ∧ f ≤ 3
          · have hF : PB.spread_within.f f 0 3 = some true := by rw [within_eq, decide_eq_true hf]
            have HF := Aside0.mk hF
            have HE : Aside0 (validE nn uu ls sn lo hi st f = 0) := ⟨by unfold validE; rw [if_pos HS.out, if_pos HV.out.1, if_pos hall, if_pos hf]⟩
            clear hF hf hall
            go_wp2_with (first | (go_at_call 72; refine ((PB.spread_within.calls _ _ _ _ _ HF.out).mono ?_); rintro e w4 ⟨rfl, hb⟩; have HB4 := Aside0.mk hb.below; clear hb))
            go_ret2
            have hI := HI.out.keep HB4.out
            refine ⟨below_step HB3.out hI.kp, .inr ⟨HE.out, cb, rfl, wp, fv, Nat.le_trans HB3.out.size hI.cge, ?_, ?_, ?_⟩⟩
            · have := hI.blk; rw [List.take_length] at this; exact this
            · have := hI.own; rw [List.take_length] at this; exact own_less this HB3.out.size
            · have hw := HWP.out.below hI.kp
              obtain ⟨h0, m, L, cl, h1, h2, h3⟩ := hw
              have hs := HB2.out.size
              exact ⟨by omega, m, L, cl, h1, by omega, ⟨h3.map, fun k => own_less (h3.own k) hs, h3.ne⟩⟩
          · have hF : PB.spread_within.f f 0 3 = some false := by rw [within_eq, decide_eq_false hf]
            have HF := Aside0.mk hF
            have HE : Aside0 (validE nn uu ls sn lo hi st f = 3) := ⟨by unfold validE; rw [if_pos HS.out, if_pos HV.out.1, if_pos hall, if_neg hf]⟩
            clear hF hf hall
            go_wp2_with (first | (go_at_call 72; refine ((PB.spread_within.calls _ _ _ _ _ HF.out).mono ?_); rintro e w4 ⟨rfl, hb⟩; have HB4 := Aside0.mk hb.below; clear hb))
            go_ret2
            exact ⟨below_step HB3.out (below_step HI.out.kp HB4.out), .inl ⟨by rw [HE.out]; decide, by rw [HE.out]; rfl⟩⟩
    · have hu : (((st.length : Int)) != uu) = true := by simpa using h1
      have HV : Aside0 (validE nn uu ls sn lo hi st f = 11) := ⟨by unfold validE; rw [if_pos HS.out, if_neg h1]⟩
      clear h1
      go_wp2_with (first | (go_at_call 68; refine ((weave_ok nn uu A c ls sn lo hi _ (Kd.C_below HR.out HB2.out) HC.out HS.out).mono ?_); rintro e w3 ⟨wp, rfl, hb, hwp⟩; have HB3 := Aside0.mk (below_step HB2.out hb); have D1 : w3.cell? ⟨bn, 1, none⟩ = some (.int .i64 uu) := blk_cell (HCC.out _ hb) 1; clear hb hwp C0 C1 C2 C3 C4 C5))
      go_ret2
      exact ⟨HB3.out, .inl ⟨by rw [HV.out]; decide, by rw [HV.out]; rfl⟩⟩
  · have HV : Aside0 (validE nn uu ls sn lo hi st f = startE nn uu ls sn lo hi ∧ startE nn uu ls sn lo hi ≠ 0) := ⟨by unfold validE; rw [if_neg h0], h0⟩
    have hd : (startE nn uu ls sn lo hi != 0) = true := by simpa using h0
    clear h0
    go_wp2_with (first | (go_at_call 68; refine ((weave_err nn uu A c ls sn lo hi _ (Kd.C_below HR.out HB2.out) HC.out HV.out.2).mono ?_); rintro e w3 ⟨rfl, hb⟩; have HB3 := Aside0.mk (below_step HB2.out hb); clear hb C0 C1 C2 C3 C4 C5))
    go_ret2
    exact ⟨HB3.out, .inl ⟨by rw [HV.out.1]; exact HV.out.2, by rw [HV.out.1]; rfl⟩⟩
end Go.Proofs.Ytgmglpnoppcnkaa
end
section
namespace Go.Proofs.Ytgmglpnoppcnkaa
open Go.RowKit Go.Proofs.YtgmglpnoppcnkaaW.PrintWords Go.Proofs.YtgmglpnoppcnkaaW.PrintLast Go.Proofs.YtgmglpnoppcnkaaW.PrintMore
set_option linter.unusedVariables false
set_option linter.unusedSimpArgs false
set_option maxRecDepth 100000
/-- A set with some units besides. -/
def setUs (s : List Bool) (us : List Int) : List Bool := us.foldl (fun s u => s.set u.toNat true) s
theorem setUs_len (us : List Int) : ∀ s, (setUs s us).length = s.length := by
  induction us with
  | nil => intro s; rfl
  | cons u r ih => intro s; rw [setUs, List.foldl_cons]; exact (ih _).trans (by simp)
theorem setUs_snoc (s : List Bool) (us : List Int) (u : Int) : setUs s (us ++ [u]) = (setUs s us).set u.toNat true := by simp [setUs]
theorem care_range {w : World} {wp cb : Nat} {fv : Value} {gone loose : List Bool} (h : w.heap[cb]? = some (.cells (careCs wp fv gone loose).toArray 146 (0, 0))) (hg : gone.length = 20) : w.rangeAt cb 22 (setCs loose) := by
  intro j v hj
  rw [blk_cell h (22 + j)]
  have hjl : j < loose.length := by
    have := (List.getElem?_eq_some_iff.1 hj).1
    rwa [setCs_length] at this
  have := careCs_loose wp fv gone loose hg j hjl
  simp only [List.getElem?_toArray]
  rw [this]
  simpa [setCs, hjl] using hj
theorem care_range2 {w : World} {wp cb : Nat} {fv : Value} {gone loose : List Bool} (h : w.heap[cb]? = some (.cells (careCs wp fv gone loose).toArray 146 (0, 0))) (hg : gone.length = 20) : w.rangeAt cb 2 (setCs gone) := by
  intro j v hj
  rw [blk_cell h (2 + j)]
  have hjl : j < gone.length := by
    have := (List.getElem?_eq_some_iff.1 hj).1
    rwa [setCs_length] at this
  have := careCs_gone wp fv gone loose j hjl
  simp only [List.getElem?_toArray]
  rw [this]
  simpa [setCs, hjl] using hj
theorem CareAt.below {w W : World} {B cb : Nat} {nn uu : Int} {sv : Value} {sn lo hi : Int} {ls : List Lk} {st : List Int} (h : CareAt w B cb nn uu sv sn lo hi ls st) (hb : Below w.heap.size w W) : CareAt W B cb nn uu sv sn lo hi ls st := by
  obtain ⟨wp, fv, h1, h2, h3, h4⟩ := h
  exact ⟨wp, fv, h1, blk_below h2 hb, own_move h3 (fun k hk => hb.block k (own_lt h3 k hk)), h4.below hb⟩
theorem setCells_blk {g t : Nat} : ∀ (vs pre mid post : List Value) (w : World), mid.length = vs.length → w.heap[g]? = some (.cells (pre ++ mid ++ post).toArray t (0, 0)) → (w.setCells g pre.length vs).heap[g]? = some (.cells (pre ++ vs ++ post).toArray t (0, 0)) := by
  intro vs
  induction vs with
  | nil =>
    intro pre mid post w hm h
    have : mid = [] := List.length_eq_zero_iff.1 hm
    subst this
    exact h
  | cons v r ih =>
    intro pre mid post w hm h
    cases mid with
    | nil => simp at hm
    | cons x m =>
      have h1 := blk_set h pre.length v
      have h2 := ih (pre ++ [v]) m post (w.setCell ⟨g, pre.length, none⟩ v) (by simpa using hm) (by
        rw [h1]
        simp [List.set_append])
      rw [List.length_append] at h2
      show ((w.setCell ⟨g, pre.length, none⟩ v).setCells g (pre.length + 1) r).heap[g]? = _
      simpa using h2
theorem setCells_all {g t : Nat} {cs : List Value} (vs : List Value) (w : World) (hl : cs.length = vs.length) (h : w.heap[g]? = some (.cells cs.toArray t (0, 0))) : (w.setCells g 0 vs).heap[g]? = some (.cells vs.toArray t (0, 0)) := by
  have := setCells_blk (g := g) (t := t) vs [] cs [] w hl (by simpa using h)
  simpa using this
theorem there_blk {w : World} {g t : Nat} {cs : List Value} (h : w.heap[g]? = some (.cells cs.toArray t (0, 0))) : w.there g 0 cs.length := fun j hj => by
  rw [Nat.zero_add]
  refine ⟨?_, blk_frozen h j⟩
  rw [blk_cell h j]
  simp [hj]
theorem Kp.setCells (w : World) (g : Nat) (vs : List Value) : ∀ o, Kp w (w.setCells g o vs) (fun i => i = g) := by
  induction vs generalizing w with
  | nil => intro o; exact Kp.refl _ _
  | cons v r ih => intro o; exact (Kp.setCell w g o v).trans (ih (w.setCell ⟨g, o, none⟩ v) (o + 1)) (fun _ h => h) (fun _ _ h => h)
set_option maxHeartbeats 4000000 in
theorem without_calls (cb B nn : Nat) (uu : Int) (sv0 : Value) (sn lo hi : Int) (ls : List Lk) (st : List Int) (A : Option Addr) (c : Nat) (us : List Int) (w : World)
    (hw : CareAt w B cb nn uu sv0 sn lo hi ls st) (hO : StOk nn uu ls sn lo hi) (hr : Kd.C (Kd.int .i64) w A us.length us) (hc : us.length ≤ c) (hu : ∀ u ∈ us, 0 ≤ u ∧ u < 20) :
    Calls Try.prog 100 #[.pointer (some ⟨cb, 0, none⟩), .slice A us.length c] w (RowPost w nn ls (ueHi (setUs (looseB st) us)) sn hi) := by
  have HW := Aside0.mk hw
  have HO := Aside0.mk hO
  have HR := Aside0.mk hr
  have HUS := Aside0.mk hu
  have HC := Aside0.mk hc
  clear hw hO hr hu hc
  obtain ⟨wp, fv, hB, hcb, how, hweb⟩ := HW.out
  have HCB := Aside0.mk hcb
  have HWEB := Aside0.mk hweb
  have hrng := care_range hcb (goneB_len st)
  have i144 : (Try.prog.info? 144).map (·.size) = some (setCs (looseB st)).length := by rw [setCs_length, looseB_len]; exact info144
  have HRNG := Aside0.mk (And.intro hrng i144)
  clear hcb hweb hrng i144 hB how
  go_enter Try.func100, Try.ntmps100
  go_wp2_with ((with_reducible refine gate_dst (N := 11) rfl ?_); refine hold ?_)
  refine wpList_load_mid rfl 144 (.tmp 10) rfl cb 22 (by go_simp) (setCs (looseB st)) _ HRNG.out.1 Try.underlying144 rfl HRNG.out.2 ?_
  go_wp2_with ((with_reducible refine gate_dst (N := 5) rfl ?_); refine hold ?_)
  obtain ⟨W1, hW1⟩ : ∃ W1, W1 = w.alloc (.cells (List.replicate 20 (Value.bool false)).toArray 144) := ⟨_, rfl⟩
  refine Kd.event_run (v := .pointer (some ⟨w.heap.size, 0, none⟩)) (w1 := W1) rfl (by rw [hW1]; go_simp) ?_
  obtain ⟨gs, hgs⟩ : ∃ gs, gs = w.heap.size := ⟨_, rfl⟩
  rw [← hgs]
  have hb1 : W1.heap[gs]? = some (.cells (List.replicate 20 (Value.bool false)).toArray 144 (0, 0)) := by rw [hW1, hgs]; exact blk_new w _
  have hB1 : Below w.heap.size w W1 := by rw [hW1]; exact below_alloc (Below.refl _ _) _
  have hlen : (setCs (looseB st)).length = 20 := by rw [setCs_length, looseB_len]
  have hth : W1.there gs 0 (setCs (looseB st)).toArray.size := by
    have := there_blk hb1
    rw [List.size_toArray, hlen]
    exact this
  refine wpList_store_mid rfl 144 (.tmp 5) (.tmp 11) rfl gs 0 (setCs (looseB st)).toArray (by go_simp) (by go_simp) hth (by rw [List.size_toArray]; exact HRNG.out.2) (all_oneCell_toArray (fun v hv => by
    simp only [setCs, List.mem_map] at hv
    obtain ⟨x, _, rfl⟩ := hv
    rfl)) ?_
  obtain ⟨W2, hW2⟩ : ∃ W2, W2 = W1.setCells gs 0 (setCs (looseB st)).toArray.toList := ⟨_, rfl⟩
  rw [← hW2]
  have hb2 : W2.heap[gs]? = some (.cells (setCs (looseB st)).toArray 144 (0, 0)) := by rw [hW2]; exact setCells_all _ _ (by rw [hlen]; rfl) hb1
  have hB2 : Below w.heap.size w W2 := by
    rw [hW2]
    exact hB1.trans ((Kp.setCells W1 gs _ 0).below hB1.size (fun j e => by rw [e, hgs]; exact Nat.le_refl _))
  have HI0 : Aside0 (Below w.heap.size w W2 ∧ w.heap.size ≤ gs ∧ W2.heap[gs]? = some (.cells (setCs (setUs (looseB st) (us.take 0))).toArray 144 (0, 0))) := ⟨hB2, by omega, hb2⟩
  clear hb1 hB1 hlen hth hb2 hB2 hW2 hW1 hgs
  go_wp2
  go_loopw [14] (fun v wr => ∃ (i : Nat), v = .int .i64 i ∧ i ≤ us.length ∧ Aside0 (Below w.heap.size w wr ∧ w.heap.size ≤ gs ∧ wr.heap[gs]? = some (.cells (setCs (setUs (looseB st) (us.take i))).toArray 144 (0, 0)))) (fun v _ => us.length - (intOf v).toNat)
  case atStart => exact ⟨0, rfl, Nat.zero_le _, HI0⟩
  case round =>
    obtain ⟨i, rfl, hile, HI⟩ := hrel
    clear HI0
    obtain ⟨wo, rfl⟩ : ∃ wo, wo = wr := ⟨_, rfl⟩
    by_cases hgo : i < us.length
    · have hcap : us.length ≤ 9223372036854775807 := HR.out.2.1
      have hwi : IntKind.i64.wrap ((i : Int) + 1) = (i : Int) + 1 := by rw [i64_w]; unfold wrap64; omega
      obtain ⟨ad, rfl, e0⟩ := int_get (Kd.C_below HR.out HI.out.1) i hgo
      obtain ⟨u, hu⟩ : ∃ u : Nat, us[i] = (u : Int) := ⟨us[i].toNat, by have := HUS.out us[i] (List.getElem_mem hgo); omega⟩
      have hu20 : u < 20 := by have := HUS.out us[i] (List.getElem_mem hgo); omega
      rw [hu] at e0
      have c0 : ∃ b, wo.cell? ⟨gs, u, none⟩ = some (.bool b) := ⟨(setUs (looseB st) (us.take i))[u]'(by rw [setUs_len, looseB_len]; omega), by
        rw [blk_cell HI.out.2.2 u]
        have : u < (setUs (looseB st) (us.take i)).length := by rw [setUs_len, looseB_len]; omega
        simp [setCs, this]⟩
      obtain ⟨b0, c0⟩ := c0
      have f0 : wo.frozen? ⟨gs, u, none⟩ = false := blk_frozen HI.out.2.2 u
      have HI5 : Aside0 (Below w.heap.size w (wo.setCell ⟨gs, u, none⟩ (.bool true)) ∧ w.heap.size ≤ gs ∧ (wo.setCell ⟨gs, u, none⟩ (.bool true)).heap[gs]? = some (.cells (setCs (setUs (looseB st) (us.take (i + 1)))).toArray 144 (0, 0))) := by
        obtain ⟨h1, h2, h3⟩ := HI.out
        refine ⟨h1.trans ((Kp.setCell wo gs u _).below h1.size (fun j e => by rw [e]; exact h2)), h2, ?_⟩
        have := blk_set h3 u (.bool true)
        rw [this, st_take hgo, hu, setUs_snoc]
        simp [setCs, List.map_set]
      clear hu
      go_wp2
      go_roundw
      case rel => exact ⟨i + 1, by go_num, by omega, HI5⟩
      case measure => simp [intOf]; omega
    · obtain rfl : i = us.length := by omega
      clear hile hgo
      have hI := HI.out
      rw [List.take_length] at hI
      obtain ⟨S', hS'⟩ : ∃ S', S' = setUs (looseB st) us := ⟨_, rfl⟩
      rw [← hS'] at hI ⊢
      have hlS : S'.length = 20 := by rw [hS', setUs_len, looseB_len]
      have hrS : wo.rangeAt gs 0 (setCs S') := fun j v hj => by
        rw [Nat.zero_add, blk_cell hI.2.2 j]; simpa using hj
      have c0 : ∀ W, Below wo.heap.size wo W → W.cell? ⟨cb, 0, none⟩ = some (.pointer (some ⟨wp, 0, none⟩)) := fun W h => blk_cell (blk_below HCB.out (below_step hI.1 h)) 0
      have HWX : Aside0 (∀ W, Below wo.heap.size wo W → WebAt W B wp nn uu sv0 sn lo hi ls) := ⟨fun W h => HWEB.out.below (below_step hI.1 h)⟩
      have hu144 := Try.underlying144
      have hi144 : (Try.prog.info? 144).map (·.size) = some (setCs S').length := by rw [setCs_length, hlS]; exact info144
      have HRS := Aside0.mk hrS
      have HLS := Aside0.mk hlS
      have HBI := Aside0.mk hI.1
      have HSE := Aside0.mk hS'
      clear hI hS' hlS hrS HI
      go_wp2
      go_region_held3 (fun W => Below wo.heap.size wo W ∧ W.rangeAt gs 0 (setCs S')) (first | exact keepC0 (fun W h => range_below HRS.out h) | exact keepC (fun W h => range_below HRS.out h) (by assumption) (by assumption)) (first | (go_at_call 74; refine (last_calls wp B nn uu sv0 sn lo hi ls S' _ (HWX.out _ (And.left (by assumption))) HLS.out HO.out).mono ?_; rintro e w' ⟨g, o, rfl, hg, hgb, hlo, hbh⟩))
      rename_i hHeld
      have HP : Aside0 (w.heap.size ≤ g ∧ w'.heap[g]? = some (.cells (intsCs o) 3 (0, 0)) ∧ LeastAt ls (ueHi (setUs (looseB st) us)) sn hi nn o ∧ Below w.heap.size w w') := by
        have hb := below_step HBI.out hHeld.1
        have h2 : w.heap.size ≤ wo.drew.heap.size := HBI.out.size
        refine ⟨by omega, hgb, ?_, hb⟩
        rw [← HSE.out]; exact hlo
      clear hHeld hg hgb hlo hbh hu144 hi144 c0
      go_wp2
      go_ret
      exact ⟨g, o, rfl, HP.out⟩
/-- A due: node, by. -/
abbrev Du := PB.S41
def duesErr (nn : Int) : List Du → Int
  | [] => 0
  | d :: r => if 0 ≤ d.f0 ∧ d.f0 ≤ nn - 1 then (if 0 ≤ d.f1 ∧ d.f1 ≤ NV then duesErr nn r else 3) else 4
def duesE (nn : Int) (l : List Du) : Int := if 64 < l.length then 9 else duesErr nn l
set_option maxHeartbeats 4000000 in
theorem checkD_calls (cb B : Nat) (nn uu : Int) (sv0 : Value) (sn lo hi : Int) (ls : List Lk) (st : List Int) (A : Option Addr) (c : Nat) (l : List Du) (w : World)
    (hw : CareAt w B cb nn uu sv0 sn lo hi ls st) (hn : 1 ≤ nn ∧ nn ≤ 64) (hr : Kd.C PB.k41 w A l.length l) (hc : l.length ≤ c) :
    Calls Try.prog 91 #[.pointer (some ⟨cb, 0, none⟩), .slice A l.length c] w fun e w' => e = .returned (.int .i64 (duesE nn l)) ∧ Below w.heap.size w w' := by
  have HW := Aside0.mk hw
  have HR := Aside0.mk hr
  have HC := Aside0.mk hc
  have hcap : l.length ≤ 9223372036854775807 := hr.2.1
  obtain ⟨hn1, hn2⟩ := hn
  obtain ⟨wp, fv, hB, hcb, how, hweb⟩ := HW.out
  obtain ⟨-, m, L, cl, hwb, -, -⟩ := hweb
  have HWB := Aside0.mk (And.intro hcb hwb)
  have hwn : IntKind.i64.wrap (nn - 1) = nn - 1 := by rw [i64_w]; unfold wrap64; omega
  clear hw hr hc hB hcb how hwb
  by_cases h64 : 64 < l.length
  · have hd : decide (64 < (l.length : Int)) = true := by simp; omega
    have HE : Aside0 (duesE nn l = 9) := ⟨by unfold duesE; rw [if_pos h64]⟩
    clear h64
    go_enter Try.func91, Try.ntmps91
    go_wp2
    go_ret
    exact ⟨by rw [HE.out]; rfl, Below.refl _ _⟩
  · have hd : decide (64 < (l.length : Int)) = false := by simp; omega
    have HE : Aside0 (duesE nn l = duesErr nn l) := ⟨by unfold duesE; rw [if_neg h64]⟩
    clear h64
    go_enter Try.func91, Try.ntmps91
    go_wp2
    go_loopw [12] (fun v wr => ∃ i : Nat, v = .int .i64 i ∧ i ≤ l.length ∧ Aside0 (Below w.heap.size w wr) ∧ Aside0 (duesErr nn l = duesErr nn (l.drop i))) (fun v _ => l.length - (intOf v).toNat)
    case atStart => exact ⟨0, rfl, Nat.zero_le _, ⟨Below.refl _ _⟩, ⟨rfl⟩⟩
    case round =>
      obtain ⟨i, rfl, hile, HI, HD⟩ := hrel
      obtain ⟨wo, rfl⟩ : ∃ wo, wo = wr := ⟨_, rfl⟩
      by_cases hgo : i < l.length
      · have hwi : IntKind.i64.wrap ((i : Int) + 1) = (i : Int) + 1 := by rw [i64_w]; unfold wrap64; omega
        obtain ⟨d, hdd⟩ : ∃ d, d = l[i] := ⟨_, rfl⟩
        have hrd : PB.rd_T41 l (i : Int) = d := by rw [hdd]; simp [PB.rd_T41, List.getElem?_eq_getElem hgo]
        have ea := PB.at_T41 (Kd.C_below HR.out HI.out) (i : Int) (by omega) (by omega)
        rw [hrd, Int.toNat_natCast] at ea
        obtain ⟨ad, rfl, e0, e1⟩ := ea
        have hdrop : duesErr nn (l.drop i) = if 0 ≤ d.f0 ∧ d.f0 ≤ nn - 1 then (if 0 ≤ d.f1 ∧ d.f1 ≤ NV then duesErr nn (l.drop (i + 1)) else 3) else 4 := by
          rw [List.drop_eq_getElem_cons hgo, ← hdd]; rfl
        have HDR := Aside0.mk hdrop
        obtain ⟨lb, hlb⟩ : ∃ lb, lb = wo.heap.size := ⟨_, rfl⟩
        have hbx : (wo.alloc (.cells #[.int .i64 d.f0, .int .i64 d.f1] 94)).heap[lb]? = some (.cells #[.int .i64 d.f0, .int .i64 d.f1] 94 (0, 0)) := by rw [hlb]; exact blk_new wo _
        have hBx : Below wo.heap.size wo (wo.alloc (.cells #[.int .i64 d.f0, .int .i64 d.f1] 94)) := below_alloc (Below.refl _ _) _
        clear hdd hrd hdrop
        go_wp2
        obtain ⟨W1, hW1⟩ : ∃ W1, W1 = wo.alloc (.cells #[.int .i64 d.f0, .int .i64 d.f1] 94) := ⟨_, rfl⟩
        rw [← hW1] at hbx hBx ⊢
        rw [← hlb]
        have HB1 := Aside0.mk (below_step HI.out hBx)
        have HBX := Aside0.mk hbx
        clear hBx hlb hW1 e0 e1 hbx
        have c0 : ∀ W, Below W1.heap.size W1 W → W.cell? ⟨lb, 0, none⟩ = some (.int .i64 d.f0) := fun W h => blk_cell (blk_below HBX.out h) 0
        have c1 : ∀ W, Below W1.heap.size W1 W → W.cell? ⟨lb, 1, none⟩ = some (.int .i64 d.f1) := fun W h => blk_cell (blk_below HBX.out h) 1
        have c2 : ∀ W, Below W1.heap.size W1 W → W.cell? ⟨cb, 0, none⟩ = some (.pointer (some ⟨wp, 0, none⟩)) := fun W h => blk_cell (blk_below HWB.out.1 (below_step HB1.out h)) 0
        have c3 : ∀ W, Below W1.heap.size W1 W → W.cell? ⟨wp, 0, none⟩ = some (.int .i64 nn) := fun W h => blk_cell (blk_below HWB.out.2 (below_step HB1.out h)) 0
        by_cases hnode : 0 ≤ d.f0 ∧ d.f0 ≤ nn - 1
        · have hF : PB.spread_within.f d.f0 0 (nn - 1) = some true := by rw [within_eq, decide_eq_true hnode]
          have HF := Aside0.mk hF
          have HN := Aside0.mk hnode
          clear hF hnode
          go_region_held3 (fun W => Below W1.heap.size W1 W) (first | exact below_drew1 (Below.refl _ _) | exact below_step (by assumption) (by assumption)) (first | (go_at_call 72; refine ((PB.spread_within.calls _ _ _ _ _ HF.out).mono ?_); rintro e w4 ⟨rfl, hb0⟩; have hb := hb0.below; clear hb0))
          rename_i hH
          have HB4 := Aside0.mk hH
          have d1 := c1 _ hH
          clear c0 c1 c2 c3 hH hb
          by_cases hby : 0 ≤ d.f1 ∧ d.f1 ≤ NV
          · have hF2 : PB.spread_within.f d.f1 0 1099511627776 = some true := by rw [within_eq]; exact congrArg some (decide_eq_true hby)
            have HF2 := Aside0.mk hF2
            have HBY := Aside0.mk hby
            clear hF2 hby
            go_wp2_with (first | (go_at_call 72; refine ((PB.spread_within.calls _ _ _ _ _ HF2.out).mono ?_); rintro e w5 ⟨rfl, hb0⟩; have HB5 := Aside0.mk hb0.below; clear hb0 d1))
            go_roundw
            case rel => exact ⟨i + 1, by go_num, by omega, ⟨below_step HB1.out (below_step HB4.out HB5.out)⟩, ⟨by rw [HD.out, HDR.out, if_pos HN.out, if_pos HBY.out]⟩⟩
            case measure => simp [intOf]; omega
          · have hF2 : PB.spread_within.f d.f1 0 1099511627776 = some false := by rw [within_eq]; exact congrArg some (decide_eq_false hby)
            have HF2 := Aside0.mk hF2
            have HBY := Aside0.mk hby
            clear hF2 hby
            go_wp2_with (first | (go_at_call 72; refine ((PB.spread_within.calls _ _ _ _ _ HF2.out).mono ?_); rintro e w5 ⟨rfl, hb0⟩; have HB5 := Aside0.mk hb0.below; clear hb0 d1))
            go_ret
            exact ⟨by rw [HE.out, HD.out, HDR.out, if_pos HN.out, if_neg HBY.out]; rfl, below_step HB1.out (below_step HB4.out HB5.out)⟩
        · have hF : PB.spread_within.f d.f0 0 (nn - 1) = some false := by rw [within_eq, decide_eq_false hnode]
          have HF := Aside0.mk hF
          have HN := Aside0.mk hnode
          clear hF hnode
          go_region_held3 (fun W => Below W1.heap.size W1 W) (first | exact below_drew1 (Below.refl _ _) | exact below_step (by assumption) (by assumption)) (first | (go_at_call 72; refine ((PB.spread_within.calls _ _ _ _ _ HF.out).mono ?_); rintro e w4 ⟨rfl, hb0⟩; have hb := hb0.below; clear hb0))
          rename_i hH
          have HB4 := Aside0.mk hH
          clear c0 c1 c2 c3 hH hb
          go_wp2
          go_ret
          exact ⟨by rw [HE.out, HD.out, HDR.out, if_neg HN.out]; rfl, below_step HB1.out HB4.out⟩
      · obtain rfl : i = l.length := by omega
        clear hile hgo
        go_wp2
        go_ret
        exact ⟨by rw [HE.out, HD.out, List.drop_length]; rfl, HI.out⟩
end Go.Proofs.Ytgmglpnoppcnkaa
end
section
namespace Go.Proofs.Ytgmglpnoppcnkaa
open Go.RowKit Go.Proofs.YtgmglpnoppcnkaaW.PrintWords Go.Proofs.YtgmglpnoppcnkaaW.PrintLast Go.Proofs.YtgmglpnoppcnkaaW.PrintMore
set_option linter.unusedVariables false
set_option linter.unusedSimpArgs false
set_option maxRecDepth 100000
theorem cared_ok (nn uu : Int) (A : Option Addr) (c : Nat) (ls : List Lk) (sn lo hi : Int) (A2 : Option Addr) (c2 : Nat) (st : List Int) (f : Int) (w : World)
    (hr : Kd.C PB.k88 w A ls.length ls) (hc : ls.length ≤ c) (hr2 : Kd.C (Kd.int .i64) w A2 st.length st) (hc2 : st.length ≤ c2) (h : validE nn uu ls sn lo hi st f = 0) :
    Calls Try.prog 54 #[.agg #[.int .i64 nn, .int .i64 uu, .slice A ls.length c], .agg #[.int .i64 sn, .int .i64 lo, .int .i64 hi], .slice A2 st.length c2, .int .i64 f] w fun e w' => ∃ cb, e = .returned (.tuple #[.pointer (some ⟨cb, 0, none⟩), .int .i64 0]) ∧ Below w.heap.size w w' ∧ CareAt w' w.heap.size cb nn uu (.slice A ls.length c) sn lo hi ls st :=
  (cared_calls nn uu A c ls sn lo hi A2 c2 st f w hr hc hr2 hc2).mono fun e w' ⟨hb, hx⟩ => by
    rcases hx with ⟨hne, _⟩ | ⟨_, cb, he, hw⟩
    · exact absurd h hne
    · exact ⟨cb, he, hb, hw⟩
theorem cared_err (nn uu : Int) (A : Option Addr) (c : Nat) (ls : List Lk) (sn lo hi : Int) (A2 : Option Addr) (c2 : Nat) (st : List Int) (f : Int) (w : World)
    (hr : Kd.C PB.k88 w A ls.length ls) (hc : ls.length ≤ c) (hr2 : Kd.C (Kd.int .i64) w A2 st.length st) (hc2 : st.length ≤ c2) (h : validE nn uu ls sn lo hi st f ≠ 0) :
    Calls Try.prog 54 #[.agg #[.int .i64 nn, .int .i64 uu, .slice A ls.length c], .agg #[.int .i64 sn, .int .i64 lo, .int .i64 hi], .slice A2 st.length c2, .int .i64 f] w fun e w' => e = .returned (.tuple #[.pointer none, .int .i64 (validE nn uu ls sn lo hi st f)]) ∧ Below w.heap.size w w' :=
  (cared_calls nn uu A c ls sn lo hi A2 c2 st f w hr hc hr2 hc2).mono fun e w' ⟨hb, hx⟩ => by
    rcases hx with ⟨_, he⟩ | ⟨hne, _⟩
    · exact ⟨he, hb⟩
    · exact absurd hne h
theorem validE_ok {nn uu : Int} {ls : List Lk} {sn lo hi : Int} {st : List Int} {f : Int} (h : validE nn uu ls sn lo hi st f = 0) : ∃ n : Nat, nn = n ∧ StOk n uu ls sn lo hi ∧ (st.length : Int) = uu ∧ (∀ x ∈ st, stGood x) ∧ 0 ≤ f ∧ f ≤ 3 := by
  unfold validE at h
  split at h
  · rename_i h0
    obtain ⟨n, e, hO⟩ := startE_ok h0
    split at h
    · rename_i h1
      split at h
      · rename_i h2
        split at h
        · rename_i h3; exact ⟨n, e, hO, h1, h2, h3⟩
        · omega
      · omega
    · omega
  · rename_i h0; exact absurd h h0
theorem one_due {w : World} {b t : Nat} {d : Du} (h : w.heap[b]? = some (.cells #[.int .i64 d.f0, .int .i64 d.f1] t (0, 0))) : Kd.C PB.k41 w (some ⟨b, 0, none⟩) [d].length [d] := by
  refine ⟨rfl, by simp, fun _ => ⟨_, rfl, fun j p hj => ?_⟩⟩
  have hj0 : j = 0 := by
    have := (List.getElem?_eq_some_iff.1 hj).1
    simp at this; omega
  subst hj0
  have hp : d = p := by simpa using hj
  subst hp
  refine ⟨[.int .i64 d.f0, .int .i64 d.f1], rfl, PB.k41_mk w d, fun i u hu => ?_⟩
  rw [Nat.zero_mul, Nat.zero_add, Addr.add_mid, Nat.zero_add, blk_cell h i]
  simpa using hu
def askE (nn uu : Int) (ls : List Lk) (sn lo hi : Int) (st : List Int) (f : Int) (d : Du) : Int := if validE nn uu ls sn lo hi st f = 0 then duesE nn [d] else validE nn uu ls sn lo hi st f
def AskedPost (w : World) (nn uu : Int) (sv : Value) (ls : List Lk) (sn lo hi : Int) (st : List Int) (f : Int) (d : Du) (e : Ending) (w' : World) : Prop :=
  Below w.heap.size w w' ∧
  ((askE nn uu ls sn lo hi st f d ≠ 0 ∧ ∃ pv, e = .returned (.tuple #[pv, .int .i64 (askE nn uu ls sn lo hi st f d)])) ∨
   (askE nn uu ls sn lo hi st f d = 0 ∧ ∃ cb, e = .returned (.tuple #[.pointer (some ⟨cb, 0, none⟩), .int .i64 0]) ∧ CareAt w' w.heap.size cb nn uu sv sn lo hi ls st))
theorem CareAt.lower {w : World} {B B' cb : Nat} {nn uu : Int} {sv : Value} {sn lo hi : Int} {ls : List Lk} {st : List Int} (h : CareAt w B cb nn uu sv sn lo hi ls st) (hs : B' ≤ B) : CareAt w B' cb nn uu sv sn lo hi ls st := by
  obtain ⟨wp, fv, h1, h2, h3, h4, m, L, cl, h5, h6, h7⟩ := h
  exact ⟨wp, fv, by omega, h2, own_less h3 hs, by omega, m, L, cl, h5, by omega, ⟨h7.map, fun k => own_less (h7.own k) hs, h7.ne⟩⟩
set_option maxHeartbeats 4000000 in
theorem asked_calls (nn uu : Int) (A : Option Addr) (c : Nat) (ls : List Lk) (sn lo hi : Int) (A2 : Option Addr) (c2 : Nat) (st : List Int) (f : Int) (d : Du) (w : World)
    (hr : Kd.C PB.k88 w A ls.length ls) (hc : ls.length ≤ c) (hr2 : Kd.C (Kd.int .i64) w A2 st.length st) (hc2 : st.length ≤ c2) :
    Calls Try.prog 95 #[.agg #[.int .i64 nn, .int .i64 uu, .slice A ls.length c], .agg #[.int .i64 sn, .int .i64 lo, .int .i64 hi], .slice A2 st.length c2, .int .i64 f, .agg #[.int .i64 d.f0, .int .i64 d.f1]] w (AskedPost w nn uu (.slice A ls.length c) ls sn lo hi st f d) := by
  have HR := Aside0.mk hr
  have HC := Aside0.mk hc
  have HR2 := Aside0.mk hr2
  have HC2 := Aside0.mk hc2
  clear hr hc hr2 hc2
  go_enter Try.func95, Try.ntmps95
  go_wp2_with ((with_reducible refine gate_dst (N := 5) rfl ?_); refine hold ?_)
  refine box_event rfl (N := 5) rfl (cs := #[.int .i64 nn, .int .i64 uu, .slice A ls.length c]) (t := 32) (by go_simp) ?_
  intro bn hbn w1 hb1 hB1
  have HB1 := Aside0.mk hB1
  have Hb1 := Aside0.mk hb1
  clear hbn hB1 hb1
  go_wp2_with ((with_reducible refine gate_dst (N := 6) rfl ?_); refine hold ?_)
  refine box_event rfl (N := 6) rfl (cs := #[.int .i64 sn, .int .i64 lo, .int .i64 hi]) (t := 43) (by go_simp) ?_
  intro bs hbs w2 hb2 hB2
  have HB2 := Aside0.mk (below_step HB1.out hB2)
  have Hb2 := Aside0.mk (And.intro (blk_below Hb1.out hB2) hb2)
  clear hbs hB2 hb2 Hb1 HB1
  go_wp2_with ((with_reducible refine gate_dst (N := 9) rfl ?_); refine hold ?_)
  refine box_event rfl (N := 9) rfl (cs := #[.int .i64 d.f0, .int .i64 d.f1]) (t := 94) (by go_simp) ?_
  intro bd hbd w3 hb3 hB3
  have HB3 := Aside0.mk (below_step HB2.out hB3)
  have HBD := Aside0.mk hb3
  have hx1 := blk_below Hb2.out.1 hB3
  have hx2 := blk_below Hb2.out.2 hB3
  have C0 : w3.cell? ⟨bn, 0, none⟩ = some (.int .i64 nn) := blk_cell hx1 0
  have C1 : w3.cell? ⟨bn, 1, none⟩ = some (.int .i64 uu) := blk_cell hx1 1
  have C2 : w3.cell? ⟨bn, 2, none⟩ = some (.slice A ls.length c) := blk_cell hx1 2
  have C3 : w3.cell? ⟨bs, 0, none⟩ = some (.int .i64 sn) := blk_cell hx2 0
  have C4 : w3.cell? ⟨bs, 1, none⟩ = some (.int .i64 lo) := blk_cell hx2 1
  have C5 : w3.cell? ⟨bs, 2, none⟩ = some (.int .i64 hi) := blk_cell hx2 2
  clear hx1 hx2 hb3 hB3 hbd Hb2 HB2
  by_cases h0 : validE nn uu ls sn lo hi st f = 0
  · have HV : Aside0 (askE nn uu ls sn lo hi st f d = duesE nn [d]) := ⟨by unfold askE; rw [if_pos h0]⟩
    have HV0 := Aside0.mk h0
    have HN : Aside0 (1 ≤ nn ∧ nn ≤ 64) := ⟨by
      obtain ⟨n, rfl, hO, _⟩ := validE_ok h0
      exact ⟨hO.net.n1, hO.net.n2⟩⟩
    clear h0
    go_wp2_with (first | (go_at_call 54; refine ((cared_ok nn uu A c ls sn lo hi A2 c2 st f _ (Kd.C_below HR.out HB3.out) HC.out (Kd.C_below HR2.out HB3.out) HC2.out HV0.out).mono ?_); rintro e w4 ⟨cb, rfl, hb, hcare⟩; have HB4 := Aside0.mk (below_step HB3.out hb); have HCA := Aside0.mk (hcare.lower HB3.out.size); have D0 : w4.cell? ⟨bd, 0, none⟩ = some (.int .i64 d.f0) := (blk_cell (blk_below HBD.out hb) 0); have D1 : w4.cell? ⟨bd, 1, none⟩ = some (.int .i64 d.f1) := (blk_cell (blk_below HBD.out hb) 1); clear hb hcare C0 C1 C2 C3 C4 C5) | (go_at_call 91; refine ((checkD_calls cb w.heap.size nn uu (.slice A ls.length c) sn lo hi ls st (some ⟨w4.heap.size, 0, none⟩) 1 [d] _ (HCA.out.below (below_alloc (Below.refl _ _) _)) HN.out (one_due (blk_new w4 _)) (Nat.le_refl _)).mono ?_); rintro e w5 ⟨rfl, hb⟩; have HB5 := Aside0.mk (below_step (below_alloc (Below.refl w4.heap.size w4) (.cells #[.int .i64 d.f0, .int .i64 d.f1] 94 (0, 0))) hb); clear hb D0 D1))
    go_ret2
    refine ⟨below_step HB4.out HB5.out, ?_⟩
    rw [HV.out]
    by_cases hz : duesE nn [d] = 0
    · exact .inr ⟨hz, cb, by rw [hz]; rfl, HCA.out.below HB5.out⟩
    · exact .inl ⟨hz, _, rfl⟩
  · have HV : Aside0 (askE nn uu ls sn lo hi st f d = validE nn uu ls sn lo hi st f ∧ validE nn uu ls sn lo hi st f ≠ 0) := ⟨by unfold askE; rw [if_neg h0], h0⟩
    have hd : (validE nn uu ls sn lo hi st f == 0) = false := by simpa using h0
    clear h0
    go_wp2_with (first | (go_at_call 54; refine ((cared_err nn uu A c ls sn lo hi A2 c2 st f _ (Kd.C_below HR.out HB3.out) HC.out (Kd.C_below HR2.out HB3.out) HC2.out HV.out.2).mono ?_); rintro e w4 ⟨rfl, hb⟩; have HB4 := Aside0.mk (below_step HB3.out hb); clear hb C0 C1 C2 C3 C4 C5))
    go_ret2
    exact ⟨HB4.out, .inl ⟨by rw [HV.out.1]; exact HV.out.2, _, by rw [HV.out.1]; rfl⟩⟩
end Go.Proofs.Ytgmglpnoppcnkaa
end
section
namespace Go.Proofs.Ytgmglpnoppcnkaa
open Go.RowKit Go.Proofs.YtgmglpnoppcnkaaW.PrintWords Go.Proofs.YtgmglpnoppcnkaaW.PrintLast Go.Proofs.YtgmglpnoppcnkaaW.PrintMore
set_option linter.unusedVariables false
set_option linter.unusedSimpArgs false
set_option maxRecDepth 100000
abbrev FW : Fence := Fence.wide
/-- What lies in the row of integers. -/
abbrev IntsAt (w : World) (A : Option Addr) (x : List Int) : Prop := Kd.C (Kd.int .i64) w A x.length x
/-- A round of loop l takes the item x, whatever slice it comes as. -/
def RoundsOk (l B : Nat) (xss : List (List Int)) (M : Nat → Prop) (J Jx : Nat → World → Prop) : Prop :=
  ∀ (k : Nat) (x : List Int) (W : World) (A : Option Addr) (c : Nat), J k W → xss[k]? = some x → IntsAt W A x → x.length ≤ c → B ≤ W.heap.size →
    YieldAt FW 0 Try.prog l #[.slice A x.length c] W fun e W' =>
      (e = .returned (.bool true) ∧ J (k + 1) W' ∧ Kp W W' M) ∨ (e = .returned (.bool false) ∧ Jx k W' ∧ Kp W W' (fun i => i < B))
/-- What is stable under changes from block B on. -/
def StableFrom (B : Nat) (J : Nat → World → Prop) : Prop := ∀ k W W', J k W → Below B W W' → J k W'
/-- Whatever is cells lies as it lay. -/
def CellsK (W W' : World) : Prop := ∀ (i : Nat) (cs : Array Value) (t : TypeId) (fr : Nat × Nat), W.heap[i]? = some (.cells cs t fr) → W'.heap[i]? = some (.cells cs t fr)
theorem CellsK.refl (W : World) : CellsK W W := fun _ _ _ _ h => h
theorem CellsK.trans {a b c : World} (h : CellsK a b) (k : CellsK b c) : CellsK a c := fun i cs t fr hi => k i cs t fr (h i cs t fr hi)
theorem cellsK_putObj {W : World} {r : Nat} {o o' : Obj} (h : W.heap[r]? = some o) (hn : ∀ cs t fr, o ≠ .cells cs t fr) : CellsK W (W.putObj r o') := fun i cs t fr hi => by
  have hne : i ≠ r := fun e => by
    subst e
    rw [h] at hi
    injection hi with hi
    exact hn cs t fr hi
  rw [World.putObj_heap_other hne]; exact hi
def StableX (B : Nat) (J : Nat → World → Prop) : Prop := ∀ k W W', J k W → Below B W W' → CellsK W W' → J k W'
/-- What an iterator over xss does, at world W: it reads what Ctx says. -/
def IterOk (f : FuncId) (lb : Array Value) (xss : List (List Int)) (Rd : Nat → Prop) (W0 : World) : Prop :=
  ∀ (l B : Nat) (M : Nat → Prop) (J Jx : Nat → World → Prop) (W : World), Below W0.heap.size W0 W → W.heap.size = B → StableFrom B J → StableX B Jx → RoundsOk l B xss M J Jx →
    (∀ i, M i → i < B ∧ ¬ Rd i) → J 0 W →
    Calls Try.prog f (#[.func (.yield l) #[] #[]] ++ lb) W fun e W' => (∃ v, e = .returned v) ∧ B ≤ W'.heap.size ∧ (J xss.length W' ∨ ∃ k, k < xss.length ∧ Jx k W')
/-- What a round's body leaves. -/
def bodyOk (B0 : Nat) (M : Nat → Prop) (I : Nat → World → Prop) (Ix : Code → Nat → World → Prop) (k : Nat) (W : World) : Exit → Act → World → Prop
  | .normal, _, W' => I (k + 1) W' ∧ Kp W W' M
  | .ret, _, W' => Ix .ret k W' ∧ Kp W W' (fun i => i < B0)
  | .exit id, _, W' => Ix (.exit id) k W' ∧ Kp W W' (fun i => i < B0)
  | .goto t, _, W' => Ix (.goto t) k W' ∧ Kp W W' (fun i => i < B0)
  | .panic _, _, _ => False
  | .outgrown, _, _ => False
theorem kp_putObj (w : World) (r : Nat) (o : Obj) : Kp w (w.putObj r o) (fun i => i = r) :=
  ⟨rfl, rfl, rfl, by simp, fun i hi hn => World.putObj_heap_other hn⟩
theorem below_putObj (w : World) (r : Nat) (o : Obj) {B : Nat} (hB : B ≤ r) (hr : r < w.heap.size) : Below B w (w.putObj r o) :=
  (kp_putObj w r o).below (by omega) (fun i e => by rw [e]; exact hB)
/-- A change and its undoing. -/
theorem kp_undo {W W3 : World} {l : Nat} {o o2 : Obj} {S : Nat → Prop} (hl : W.heap[l]? = some o) (hk : Kp (W.putObj l o2) W3 S) : Kp W (W3.putObj l o) S := by
  have hlt : l < W.heap.size := blk_lt hl
  have h2 := hk.size
  rw [World.putObj_size] at h2
  refine ⟨hk.os, hk.tape, hk.output, by rw [World.putObj_size]; exact h2, fun i hi hn => ?_⟩
  by_cases e : i = l
  · subst e
    rw [World.putObj_heap_same (by omega), hl]
  · rw [World.putObj_heap_other e, hk.block i (by rw [World.putObj_size]; exact hi) hn, World.putObj_heap_other e]
theorem ints_keep {W W' : World} {A : Option Addr} {x : List Int} (h : IntsAt W A x) (hk : ∀ a v, W.cell? a = some v → W'.cell? a = some v) : IntsAt W' A x := by
  obtain ⟨h1, h2, h3⟩ := h
  refine ⟨h1, h2, fun h0 => ?_⟩
  obtain ⟨ad, e, h4⟩ := h3 h0
  exact ⟨ad, e, fun j p hj => by
    obtain ⟨c, c1, c2, c3⟩ := h4 j p hj
    exact ⟨c, c1, c2, fun i u hu => hk _ _ (c3 i u hu)⟩⟩
theorem loop_cell {W : World} {l : Nat} {r : Loop} (h : W.heap[l]? = some (.loop r)) (a : Addr) (v : Value) (hv : W.cell? a = some v) : a.block ≠ l := by
  intro e
  unfold World.cell? at hv
  rw [e, h] at hv
  simp at hv
theorem ints_putLoop {W : World} {l : Nat} {r : Loop} {o : Obj} {A : Option Addr} {x : List Int} (h : W.heap[l]? = some (.loop r)) (hx : IntsAt W A x) : IntsAt (W.putObj l o) A x :=
  ints_keep hx (fun a v hv => (World.cell?_of_block (World.putObj_heap_other (loop_cell h a v hv))).trans hv)
/-- The statement 'for x := range g { .. }'. -/
theorem range_law {g : Operand} {p : Tmp} {assign body : Code} {Q : Exit → Act → World → Prop} {a : Act} {w : World} {gf : FuncId} {lb : Array Value} {xss : List (List Int)} {Rd : Nat → Prop}
    (hg : a.eval g = .func (.func gf) #[] lb) (eg : ∀ args w, (callFunc gf args).run Try.prog w = .ok (.enter gf args) w) (hit : IterOk gf lb xss Rd w)
    (M : Nat → Prop) (hM : ∀ i, M i → i < w.heap.size ∧ ¬ Rd i) (I : Nat → World → Prop) (Ix : Code → Nat → World → Prop) (hI : StableFrom w.heap.size I) (hIx : ∀ c, StableX w.heap.size (Ix c)) (h0 : I 0 w)
    (a₁ : Value → Act)
    (hassign : ∀ (l : Nat) (v : Value) (W : World) (K : Act → World → Prop), K (a₁ v) W → assign.wpIn (FW.inRound l) 0 Try.prog (Exit.then K (fun _ _ _ => False)) { tmps := a.tmps.setIfInBounds p v, defers := [] } W)
    (hbody : ∀ (l k : Nat) (x : List Int) (A : Option Addr) (c : Nat) (W : World), I k W → xss[k]? = some x → IntsAt W A x → x.length ≤ c → w.heap.size + 2 ≤ W.heap.size →
      body.wpIn (FW.inRound l) 0 Try.prog (bodyOk w.heap.size M I Ix k W) (a₁ (.slice A x.length c)) W)
    (hdone : ∀ W, w.heap.size + 2 ≤ W.heap.size → I xss.length W → W.heap[w.heap.size]? = some (.deferred (some [])) → Q .normal { a with defers := { target := .collected w.heap.size, args := #[] } :: a.defers } W)
    (hstop : ∀ (c : Code) (k : Nat) (W : World), w.heap.size + 2 ≤ W.heap.size → k < xss.length → Ix c k W → W.heap[w.heap.size]? = some (.deferred (some [])) → c.wp Try.prog Q { a with defers := { target := .collected w.heap.size, args := #[] } :: a.defers } W) :
    (Code.rangeFunc g #[p] assign body).wp Try.prog Q a w := by
  refine (wpIn_wide (n := 0)).1 (wpIn_rangeFunc ?_)
  intro fn hfn
  show ∃ l mark w₁ d w₁' f args w₂, (Instr.enterLoop fn a.tmps #[p] assign body none).run Try.prog w = _ ∧ _
  obtain ⟨rec, hrec⟩ : ∃ rec : LoopState → Option Code → Loop, rec = fun st pe => { state := st, pending := pe, fn, tmps := a.tmps, params := #[p], assign, body, defers := w.heap.size } := ⟨_, rfl⟩
  obtain ⟨W1, hW1⟩ : ∃ W1, (w.alloc (.deferred (some []))).alloc (.loop (rec .ready none)) = W1 := ⟨_, rfl⟩
  have hL1 : W1.heap[w.heap.size + 1]? = some (.loop (rec .ready none)) := by
    rw [← hW1]; have := World.alloc_heap_new (w.alloc (.deferred (some []))) (.loop (rec .ready none)); rwa [World.size_alloc] at this
  have hK1 : W1.heap[w.heap.size]? = some (.deferred (some [])) := by
    rw [← hW1]; exact (Below.heap_alloc _ _ _ (by simp)).trans (World.alloc_heap_new w _)
  have hb1 : Below w.heap.size w W1 := by
    rw [← hW1]; exact below_alloc (below_alloc (Below.refl _ _) _) _
  have hs1 : W1.heap.size = w.heap.size + 2 := by rw [← hW1]; simp
  have hI1 : I 0 W1 := hI _ _ _ h0 hb1
  refine ⟨w.heap.size + 1, [{ target := .collected w.heap.size, args := #[] }], W1, { target := .fn (.func gf) lb, args := #[.func (.yield (w.heap.size + 1)) #[] #[]] }, W1, gf,
    #[.func (.yield (w.heap.size + 1)) #[] #[]] ++ lb, W1, ?_, ?_, ?_, ?_, fun h => by simp [Fence.wide] at h, ?_⟩
  · rw [← hW1, hrec]; exact run_enterLoop_outer _ _ _ _ _
  · simp only [resolve, hg]
    simp [go_sem]
  · intro f' _; trivial
  · simp [invoke, go_sem, eg]
  · refine callsIn_wide.2 ((hit (w.heap.size + 1) (w.heap.size + 2) M
      (fun k W => I k W ∧ W.heap[w.heap.size + 1]? = some (.loop (rec .ready none)) ∧ W.heap[w.heap.size]? = some (.deferred (some [])))
      (fun k W => ∃ c, Ix c k W ∧ W.heap[w.heap.size + 1]? = some (.loop (rec .done (some c))) ∧ W.heap[w.heap.size]? = some (.deferred (some [])))
      W1 hb1 hs1 ?_ ?_ ?_ (fun i hi => ⟨by have := (hM i hi).1; omega, (hM i hi).2⟩) ⟨hI1, hL1, hK1⟩).mono ?_)
    · rintro k W W' ⟨h1, h2, h3⟩ hb
      exact ⟨hI _ _ _ h1 (hb.mono (by omega)), (hb.block _ (by omega)).trans h2, (hb.block _ (by omega)).trans h3⟩
    · rintro k W W' ⟨c, h1, h2, h3⟩ hb hck
      exact ⟨c, hIx c _ _ _ h1 (hb.mono (by omega)) hck, (hb.block _ (by omega)).trans h2, (hb.block _ (by omega)).trans h3⟩
    · rintro k x W A c ⟨hi, hl, hk⟩ hx hA hc hsz
      have hlt : w.heap.size + 1 < W.heap.size := by omega
      have hy := run_yield (P := Try.prog) (args := #[.slice A x.length c]) hl (by rw [hrec]; rfl)
      rw [hrec] at hy
      have hy2 : (Instr.yield (w.heap.size + 1) #[.slice A x.length c]).run Try.prog W = .ok (.round (w.heap.size + 1) fn (a.tmps.setIfInBounds p (.slice A x.length c)) assign body) W := by simpa using hy
      refine ⟨fn, _, assign, body, hy2, roundIn_of_wpIn hfn (hassign _ _ W _ ?_)⟩
      clear hy hy2
      refine ⟨_, run_beginRound hl (by rw [hrec]), ?_⟩
      obtain ⟨W2, hW2⟩ : ∃ W2, W2 = W.putObj (w.heap.size + 1) (.loop { rec .ready none with state := .busy }) := ⟨_, rfl⟩
      rw [← hW2]
      have hl2 : W2.heap[w.heap.size + 1]? = some (.loop { rec .ready none with state := .busy }) := by rw [hW2]; exact World.putObj_heap_same hlt
      have hk2 : W2.heap[w.heap.size]? = some (.deferred (some [])) := by rw [hW2]; exact (World.putObj_heap_other (by omega)).trans hk
      have hb2 : Below w.heap.size W W2 := by rw [hW2]; exact below_putObj _ _ _ (by omega) hlt
      have hs2 : W2.heap.size = W.heap.size := by rw [hW2]; simp
      have hA2 : IntsAt W2 A x := by rw [hW2]; exact ints_putLoop hl hA
      refine wpIn_mono (hbody _ k x A c W2 (hI _ _ _ hi hb2) hx hA2 hc (by omega)) ?_
      rintro e a3 W3 hp
      have fin : ∀ (jump : Option Code) (S : Nat → Prop), (∀ i, S i → i < w.heap.size) → Kp W2 W3 S →
          (Instr.endRound (w.heap.size + 1) jump).run Try.prog W3 = .ok (.bool jump.isNone) (W3.putObj (w.heap.size + 1) (.loop (rec (if jump.isNone then .ready else .done) jump))) ∧
          (W3.putObj (w.heap.size + 1) (.loop (rec (if jump.isNone then .ready else .done) jump))).heap[w.heap.size + 1]? = some (.loop (rec (if jump.isNone then .ready else .done) jump)) ∧
          (W3.putObj (w.heap.size + 1) (.loop (rec (if jump.isNone then .ready else .done) jump))).heap[w.heap.size]? = some (.deferred (some [])) ∧
          Below w.heap.size W3 (W3.putObj (w.heap.size + 1) (.loop (rec (if jump.isNone then .ready else .done) jump))) ∧
          CellsK W3 (W3.putObj (w.heap.size + 1) (.loop (rec (if jump.isNone then .ready else .done) jump))) := fun jump S hS hk3 => by
        have hl3 := hk3.blk hl2 (fun h => by have := hS _ h; omega)
        have hd3 := hk3.blk hk2 (fun h => by have := hS _ h; omega)
        have hlt3 := blk_lt hl3
        have := run_endRound (P := Try.prog) jump hl3
        rw [hrec] at this ⊢
        exact ⟨this, World.putObj_heap_same hlt3, (World.putObj_heap_other (by omega)).trans hd3, below_putObj _ _ _ (by omega) hlt3, cellsK_putObj hl3 (fun _ _ _ e => by cases e)⟩
      cases e with
      | normal =>
        obtain ⟨hi3, hk3⟩ := hp
        obtain ⟨hr, hl4, hd4, hb4, hc4⟩ := fin none M (fun i h => (hM i h).1) hk3
        refine ⟨_, _, hr, .inl ⟨rfl, ⟨hI _ _ _ hi3 hb4, hl4, hd4⟩, ?_⟩⟩
        rw [hW2] at hk3
        exact kp_undo hl hk3
      | ret =>
        obtain ⟨hi3, hk3⟩ := hp
        obtain ⟨hr, hl4, hd4, hb4, hc4⟩ := fin (some .ret) _ (fun i h => h) hk3
        refine ⟨_, _, hr, .inr ⟨rfl, ⟨_, hIx _ _ _ _ hi3 hb4 hc4, hl4, hd4⟩, ?_⟩⟩
        rw [hW2] at hk3
        exact ((kp_putObj _ _ _).trans hk3 (U := fun i => i < w.heap.size + 2) (fun i h => by omega) (fun i _ h => by omega)).trans (kp_putObj _ _ _) (fun i h => h) (fun i _ h => by omega)
      | exit id =>
        obtain ⟨hi3, hk3⟩ := hp
        obtain ⟨hr, hl4, hd4, hb4, hc4⟩ := fin (some (.exit id)) _ (fun i h => h) hk3
        refine ⟨_, _, hr, .inr ⟨rfl, ⟨_, hIx _ _ _ _ hi3 hb4 hc4, hl4, hd4⟩, ?_⟩⟩
        rw [hW2] at hk3
        exact ((kp_putObj _ _ _).trans hk3 (U := fun i => i < w.heap.size + 2) (fun i h => by omega) (fun i _ h => by omega)).trans (kp_putObj _ _ _) (fun i h => h) (fun i _ h => by omega)
      | goto t =>
        obtain ⟨hi3, hk3⟩ := hp
        obtain ⟨hr, hl4, hd4, hb4, hc4⟩ := fin (some (.goto t)) _ (fun i h => h) hk3
        refine ⟨_, _, hr, .inr ⟨rfl, ⟨_, hIx _ _ _ _ hi3 hb4 hc4, hl4, hd4⟩, ?_⟩⟩
        rw [hW2] at hk3
        exact ((kp_putObj _ _ _).trans hk3 (U := fun i => i < w.heap.size + 2) (fun i h => by omega) (fun i _ h => by omega)).trans (kp_putObj _ _ _) (fun i h => h) (fun i _ h => by omega)
      | panic ch => exact hp.elim
      | outgrown => exact hp.elim
    · rintro e W2 ⟨⟨v, rfl⟩, hsz, (⟨hi, hl, hk⟩ | ⟨k, hkl, c, hi, hl, hk⟩)⟩
      · refine ⟨none, _, by have := run_endLoop (P := Try.prog) hl (by rw [hrec]; simp); rw [hrec] at this; exact this, hdone _ (by simp; omega) (hI _ _ _ hi (below_putObj _ _ _ (by omega) (by omega))) ((World.putObj_heap_other (by omega)).trans hk)⟩
      · refine ⟨some c, _, by have := run_endLoop (P := Try.prog) hl (by rw [hrec]; simp); rw [hrec] at this; exact this, ?_⟩
        exact wpIn_wide.2 (hstop c k _ (by simp; omega) hkl (hIx c _ _ _ hi (below_putObj _ _ _ (by omega) (by omega)) (cellsK_putObj hl (fun _ _ _ e => by cases e))) ((World.putObj_heap_other (by omega)).trans hk))
end Go.Proofs.Ytgmglpnoppcnkaa
end
section
namespace Go.Proofs.Ytgmglpnoppcnkaa
open Go.RowKit Go.Proofs.YtgmglpnoppcnkaaW.PrintWords Go.Proofs.YtgmglpnoppcnkaaW.PrintLast Go.Proofs.YtgmglpnoppcnkaaW.PrintMore
set_option linter.unusedVariables false
set_option linter.unusedSimpArgs false
set_option maxRecDepth 100000
theorem clone_nil (w : World) : Calls Try.prog 98 #[.slice none 0 0] w fun e w' => e = .returned (.slice none 0 0) ∧ Below w.heap.size w w' := by
  have q33 : ∀ (w : World) (a : Option Addr) (n c n' c' : Nat), (binOp .eql 33 (.slice a n c) (.slice none n' c')).run Try.prog w = .ok (.bool a.isNone) w := fun w a n c n' c' => Lib.run_eql_slice_nil w _ _ a n c n' c' Try.underlying33
  go_enter Try.func98, Try.ntmps98
  go_wp2
  go_ret
  exact ⟨rfl, Below.refl _ _⟩
theorem ints_news {w : World} {ad : Addr} {x : List Int} (h : IntsAt w (some ad) x) : ∀ j u, (ints x)[j]? = some u → w.cell? (ad.add j) = some u := fun j u hu => by
  have hj : j < x.length := by
    have := (List.getElem?_eq_some_iff.1 hu).1
    simpa [ints] using this
  obtain ⟨ad', e, hc⟩ := int_get h j hj
  cases e
  rw [hc]
  simpa [ints, hj] using hu
theorem ints_len (x : List Int) : (ints x).length = x.length := by simp [ints]
set_option maxHeartbeats 1000000 in
theorem clone_calls (ad : Addr) (c : Nat) (x : List Int) (w : World) (hx : IntsAt w (some ad) x) (h0 : 0 < x.length) (hb : x.length ≤ 100000) :
    Calls Try.prog 98 #[.slice (some ad) x.length c] w fun e w' => ∃ g cap, e = .returned (.slice (some ⟨g, 0, none⟩) x.length cap) ∧ w'.ownsRow w.heap.size 3 1 (.slice (some ⟨g, 0, none⟩) x.length cap) x.length (ints x) ∧ Below w.heap.size w w' := by
  obtain ⟨i3, hi3, hy0, hy1, hy2⟩ := info_parts info3
  have HX := Aside0.mk hx
  have hA : Below w.heap.size w (w.alloc (.cells #[] 3)) := below_alloc (Below.refl _ _) _
  have hown : (w.alloc (.cells #[] 3)).ownsRow w.heap.size 3 1 (.slice (some ⟨w.heap.size, 0, none⟩) 0 0) 0 [] := ⟨rfl, .inr ⟨w.heap.size, 0, #[], rfl, Nat.le_refl _, blk_new w _, Nat.le_refl _, by unfold maxLen; omega, rfl, rfl⟩⟩
  have HO := Aside0.mk (And.intro hA hown)
  have hnews := ints_news (Kd.C_below HX.out HO.out.1)
  have HN := Aside0.mk hnews
  clear hx hA hown hnews
  have q33 : ∀ (w : World) (a : Option Addr) (n c n' c' : Nat), (binOp .eql 33 (.slice a n c) (.slice none n' c')).run Try.prog w = .ok (.bool a.isNone) w := fun w a n c n' c' => Lib.run_eql_slice_nil w _ _ a n c n' c' Try.underlying33
  go_enter Try.func98, Try.ntmps98
  go_wp2_with ((with_reducible refine gate_dst (N := 7) rfl ?_); refine hold ?_)
  refine wpList_append_lies _ rfl (.tmp 5) (.tmp 6) 33 rfl w.heap.size 3 i3 _ 1 8 Try.underlying33 hi3 hy0 hy1 hy2 rfl (by decide) (.slice (some ⟨w.heap.size, 0, none⟩) 0 0) 0 [] (by go_simp) HO.out.2 ad x.length c (ints x) (by go_simp) (by rw [ints_len, Nat.mul_one]) HN.out (by
    intro u hu
    simp only [ints, List.mem_map] at hu
    obtain ⟨y, _, rfl⟩ := hu
    rfl) h0 (by unfold maxLen; omega) (by omega) (by exact HO.out.1.size) _ rfl ?_
  intro g cap w5 hown5 hg5 hor hlt5
  have HP : Aside0 (w5.ownsRow w.heap.size 3 1 (.slice (some ⟨g, 0, none⟩) x.length cap) x.length (ints x) ∧ Below w.heap.size w w5) := by
    refine ⟨by simpa using hown5, HO.out.1.trans ((Kp.grown hg5).below HO.out.1.size (fun k hk => own_base HO.out.2 k hk.symm))⟩
  clear hown5 hg5 hor hlt5
  simp only [Nat.zero_add]
  go_wp2
  go_ret
  exact ⟨g, cap, rfl, HP.out⟩
/-- The sets of k elements of a list, in order, behind some that are chosen already. -/
def chooseL : Nat → List Int → List Int → List (List Int)
  | 0, _, ch => [ch]
  | _ + 1, [], _ => []
  | k + 1, u :: r, ch => chooseL k r (ch ++ [u]) ++ chooseL (k + 1) r ch
termination_by k l => (k, l.length)
theorem chooseL_zero (l ch : List Int) : chooseL 0 l ch = [ch] := by rw [chooseL]
theorem chooseL_nil (k : Nat) (ch : List Int) : chooseL (k + 1) [] ch = [] := by rw [chooseL]
theorem chooseL_cons (k : Nat) (u : Int) (r ch : List Int) : chooseL (k + 1) (u :: r) ch = chooseL k r (ch ++ [u]) ++ chooseL (k + 1) r ch := by rw [chooseL]
set_option maxHeartbeats 1000000 in
/-- choose: its closure, with three boxes. -/
theorem choose_calls (v1 v2 : Value) (k : Int) (w : World) (h1 : ∃ A n c, v1 = .slice A n c) (h2 : ∃ A n c, v2 = .slice A n c) :
    Calls Try.prog 123 #[v1, .int .i64 k, v2] w fun e w' => ∃ lb kb cb, e = .returned (.func (.func 129) #[] #[.pointer (some ⟨kb, 0, none⟩), .pointer (some ⟨cb, 0, none⟩), .pointer (some ⟨lb, 0, none⟩)]) ∧ Below w.heap.size w w' ∧
      w'.heap[lb]? = some (.cells #[v1] 33 (0, 0)) ∧ w'.heap[kb]? = some (.cells #[.int .i64 k] 3 (0, 0)) ∧ w'.heap[cb]? = some (.cells #[v2] 33 (0, 0)) ∧ (w.heap.size ≤ lb ∧ w.heap.size ≤ kb ∧ w.heap.size ≤ cb) := by
  obtain ⟨A1, n1, c1, rfl⟩ := h1
  obtain ⟨A2, n2, c2, rfl⟩ := h2
  go_enter Try.func123, Try.ntmps123
  go_wp2_with ((with_reducible refine gate_dst (N := 3) rfl ?_); refine hold ?_)
  refine box_event rfl (N := 3) rfl (cs := #[.slice A1 n1 c1]) (t := 33) (by go_simp) ?_
  intro lb hlb w1 hb1 hB1
  have Hb1 := Aside0.mk (And.intro hb1 (And.intro hB1 (show w.heap.size ≤ lb by omega)))
  clear hlb hb1 hB1
  go_wp2_with ((with_reducible refine gate_dst (N := 4) rfl ?_); refine hold ?_)
  refine box_event rfl (N := 4) rfl (cs := #[.int .i64 k]) (t := 3) (by go_simp) ?_
  intro kb hkb w2 hb2 hB2
  have Hb2 := Aside0.mk (And.intro hb2 (And.intro hB2 (show w.heap.size ≤ kb by have := Hb1.out.2.1.size; omega)))
  clear hkb hb2 hB2
  go_wp2_with ((with_reducible refine gate_dst (N := 5) rfl ?_); refine hold ?_)
  refine box_event rfl (N := 5) rfl (cs := #[.slice A2 n2 c2]) (t := 33) (by go_simp) ?_
  intro cb hcb w3 hb3 hB3
  have Hb3 := Aside0.mk (And.intro hb3 (And.intro hB3 (show w.heap.size ≤ cb by have := Hb1.out.2.1.size; have := Hb2.out.2.1.size; omega)))
  clear hcb hb3 hB3
  go_wp2
  go_ret
  refine ⟨lb, kb, cb, rfl, below_step (below_step Hb1.out.2.1 Hb2.out.2.1) Hb3.out.2.1, blk_below (blk_below Hb1.out.1 Hb2.out.2.1) Hb3.out.2.1, blk_below Hb2.out.1 Hb3.out.2.1, Hb3.out.1, Hb1.out.2.2, Hb2.out.2.2, Hb3.out.2.2⟩
end Go.Proofs.Ytgmglpnoppcnkaa
end
section
namespace Go.Proofs.Ytgmglpnoppcnkaa
open Go.RowKit Go.Proofs.YtgmglpnoppcnkaaW.PrintWords Go.Proofs.YtgmglpnoppcnkaaW.PrintLast Go.Proofs.YtgmglpnoppcnkaaW.PrintMore
set_option linter.unusedVariables false
set_option linter.unusedSimpArgs false
set_option maxRecDepth 100000
attribute [local go_sem] Oper.semAt_some
/-- What choose's closure reads. -/
structure ChCtx (W : World) (kb cb lb : Nat) (k : Nat) (l ch : List Int) (A1 : Option Addr) (c1 : Nat) (A2 : Option Addr) (c2 : Nat) : Prop where
  hkb : W.heap[kb]? = some (.cells #[.int .i64 k] 3 (0, 0))
  hcb : W.heap[cb]? = some (.cells #[.slice A2 ch.length c2] 33 (0, 0))
  hlb : W.heap[lb]? = some (.cells #[.slice A1 l.length c1] 33 (0, 0))
  hl : IntsAt W A1 l
  hch : IntsAt W A2 ch
  lc : l.length ≤ c1
  cc : ch.length ≤ c2
  nil : ch = [] → A2 = none ∧ c2 = 0
  nn : ch ≠ [] → ∃ ad, A2 = some ad
  k20 : k ≤ 1000
  l20 : l.length ≤ 20
  ck : ch.length + k ≤ 2000
def ChRd (kb cb lb : Nat) (A1 A2 : Option Addr) (i : Nat) : Prop := i = kb ∨ i = cb ∨ i = lb ∨ (∃ ad, A1 = some ad ∧ ad.block = i) ∨ (∃ ad, A2 = some ad ∧ ad.block = i)
theorem ints_kp {W W' : World} {A : Option Addr} {x : List Int} {S : Nat → Prop} (h : IntsAt W A x) (hk : Kp W W' S) (hn : ∀ ad, A = some ad → ¬ S ad.block) : IntsAt W' A x := by
  obtain ⟨h1, h2, h3⟩ := h
  refine ⟨h1, h2, fun h0 => ?_⟩
  obtain ⟨ad, e, h4⟩ := h3 h0
  refine ⟨ad, e, fun j p hj => ?_⟩
  obtain ⟨c, c1, c2, c3⟩ := h4 j p hj
  refine ⟨c, c1, c2, fun i u hu => ?_⟩
  have := c3 i u hu
  have hb : (ad.add (j * 1 + i)).block = ad.block := by unfold Addr.add; split <;> rfl
  have hlt : (ad.add (j * 1 + i)).block < W.heap.size := World.block_lt_of_cell? W _ this
  refine (World.cell?_of_block (hk.block _ hlt ?_)).trans this
  rw [hb]
  exact hn ad e
theorem ChCtx.keep {W W' : World} {kb cb lb k : Nat} {l ch : List Int} {A1 A2 : Option Addr} {c1 c2 : Nat} {S : Nat → Prop} (h : ChCtx W kb cb lb k l ch A1 c1 A2 c2) (hk : Kp W W' S) (hS : ∀ i, S i → ¬ ChRd kb cb lb A1 A2 i) : ChCtx W' kb cb lb k l ch A1 c1 A2 c2 :=
  ⟨hk.blk h.hkb (fun s => hS _ s (.inl rfl)), hk.blk h.hcb (fun s => hS _ s (.inr (.inl rfl))), hk.blk h.hlb (fun s => hS _ s (.inr (.inr (.inl rfl)))),
   ints_kp h.hl hk (fun ad e s => hS _ s (.inr (.inr (.inr (.inl ⟨ad, e, rfl⟩))))), ints_kp h.hch hk (fun ad e s => hS _ s (.inr (.inr (.inr (.inr ⟨ad, e, rfl⟩))))), h.lc, h.cc, h.nil, h.nn, h.k20, h.l20, h.ck⟩
theorem ChCtx.below {W W' : World} {kb cb lb k : Nat} {l ch : List Int} {A1 A2 : Option Addr} {c1 c2 : Nat} (h : ChCtx W kb cb lb k l ch A1 c1 A2 c2) (hb : Below W.heap.size W W') : ChCtx W' kb cb lb k l ch A1 c1 A2 c2 :=
  h.keep (Kp.of_below hb (fun _ => False)) (fun _ s => s.elim)
set_option maxHeartbeats 2000000 in
/-- No element is left to choose: what has been chosen is handed on. -/
theorem choose1_zero (kb cb lb : Nat) (l ch : List Int) (A1 A2 : Option Addr) (c1 c2 : Nat) (W0 : World) (hc : ChCtx W0 kb cb lb 0 l ch A1 c1 A2 c2) :
    IterOk 129 #[.pointer (some ⟨kb, 0, none⟩), .pointer (some ⟨cb, 0, none⟩), .pointer (some ⟨lb, 0, none⟩)] (chooseL 0 l ch) (ChRd kb cb lb A1 A2) W0 := by
  intro y B M J Jx W hW hB hJ hJx hR hM h0
  have hcW := hc.below hW
  refine (callsIn_wide (n := 0)).1 (callsIn_of_wp_marks Try.func129 rfl trivial ?_ rfl)
  simp only [Try.ntmps129, List.size_toArray, List.length_cons, List.length_nil, Nat.reduceAdd, Nat.reduceSub, Array.replicate_succ, Array.replicate_zero, List.push_toArray, List.append_toArray, List.nil_append, List.cons_append]
  obtain ⟨W1, hW1⟩ : ∃ W1, W1 = W.alloc (.cells #[.func (.yield y) #[] #[]] 221) := ⟨_, rfl⟩
  have hb1 : Below W.heap.size W W1 := by rw [hW1]; exact below_alloc (Below.refl _ _) _
  have hc1 := hcW.below hb1
  have e0 : W1.cell? ⟨kb, 0, none⟩ = some (.int .i64 0) := blk_cell hc1.hkb 0
  have e1 : W1.cell? ⟨cb, 0, none⟩ = some (.slice A2 ch.length c2) := blk_cell hc1.hcb 0
  have e2 : W1.cell? ⟨W.heap.size, 0, none⟩ = some (.func (.yield y) #[] #[]) := by rw [hW1]; exact blk_cell (blk_new W _) 0
  have hj1 : J 0 W1 := hJ _ _ _ h0 (hb1.mono (by omega))
  obtain ⟨fn, tmps, assign, body, hy, hRd⟩ := hR 0 ch W1 A2 c2 hj1 (by rw [chooseL_zero]; rfl) hc1.hch hc1.cc (by have := hb1.size; omega)
  have HH := Aside0.mk (And.intro hc1 (And.intro hj1 hb1))
  have HBB := Aside0.mk hB
  rw [hW1] at e0 e1 e2 hy hRd
  have hsz : W1.heap.size = B + 1 := by rw [hW1]; simp; omega
  have HSZ := Aside0.mk hsz
  have HW1 := Aside0.mk hW1
  clear hcW hc1 hj1 hb1 h0 hB hW1 hsz
  gi_wp2
  refine wpIn_wide.2 (wp_scope_straight ((wpIn_wide (n := 0)).1 ?_))
  gi_wp2
  refine ⟨rfl, hRd.mono ?_⟩
  clear hy hRd e0 e1 e2
  rintro e W2 (⟨rfl, hj, hk⟩ | ⟨rfl, hj, hk⟩)
  · gi_wp2
    refine ⟨_, results_none rfl _ _ _, ⟨_, rfl⟩, ?_, .inl (by rw [chooseL_zero]; exact hj)⟩
    have := hk.size; rw [← HW1.out, HSZ.out] at this; omega
  · gi_wp2
    refine ⟨_, results_none rfl _ _ _, ⟨_, rfl⟩, ?_, .inr ⟨0, by rw [chooseL_zero]; exact Nat.one_pos, hj⟩⟩
    have := hk.size; rw [← HW1.out, HSZ.out] at this; omega
def mk (D : Nat) : Deferred := { target := .collected D, args := #[] }
/-- A function whose loops have left marks leaves. -/
theorem leaves_marks {fn : Func} {tmps : Array Value} {R : Ending → World → Prop} {B : Nat} : ∀ (Ds : List Nat) (W : World), Ds.Nodup → (∀ D ∈ Ds, W.heap[D]? = some (.deferred (some [])) ∧ B ≤ D) →
    (∀ W', Below B W W' → CellsK W W' → W.heap.size ≤ W'.heap.size → ∃ v, (results fn tmps).run Try.prog W' = .ok v W' ∧ R (.returned v) W') → LeavesInM FW 0 Try.prog fn tmps R (Ds.map mk) .returning W := by
  intro Ds
  induction Ds with
  | nil => intro W _ _ h; exact h W (Below.refl _ _) (CellsK.refl _) (Nat.le_refl _)
  | cons D r ih =>
    intro W hn hD h
    obtain ⟨h1, h2⟩ := List.nodup_cons.1 hn
    obtain ⟨hd, hB⟩ := hD D List.mem_cons_self
    have hb := below_putObj W D (.deferred none) hB (blk_lt hd)
    refine ⟨by simp, .inl ⟨D, _, rfl, run_takeDeferred hd, ih _ h2 (fun E hE => ?_) (fun W' hb' hc' hs => h W' (hb.trans hb') ((cellsK_putObj hd (fun _ _ _ e => by cases e)).trans hc') (by simpa using hs))⟩⟩
    obtain ⟨e1, e2⟩ := hD E (List.mem_cons_of_mem _ hE)
    exact ⟨(World.putObj_heap_other (fun e => h1 (by rw [← e]; exact hE))).trans e1, e2⟩
theorem clone_any (A : Option Addr) (c : Nat) (x : List Int) (w : World) (hx : IntsAt w A x) (hnil : x = [] → A = none ∧ c = 0) (hb : x.length ≤ 100000) :
    Calls Try.prog 98 #[.slice A x.length c] w fun e w' => ∃ v, e = .returned v ∧ w'.ownsRow w.heap.size 3 1 v x.length (ints x) ∧ Below w.heap.size w w' := by
  by_cases h0 : x = []
  · subst h0
    obtain ⟨rfl, rfl⟩ := hnil rfl
    exact (clone_nil w).mono fun e w' ⟨he, hb⟩ => ⟨_, he, ⟨rfl, .inl ⟨rfl, rfl⟩⟩, hb⟩
  · have hp : 0 < x.length := List.length_pos_iff.2 h0
    obtain ⟨ad, rfl, -⟩ := int_get hx 0 hp
    exact (clone_calls ad c x w hx hp hb).mono fun e w' ⟨g, cap, he, ho, hb⟩ => ⟨_, he, ho, hb⟩
end Go.Proofs.Ytgmglpnoppcnkaa
end
section
namespace Go.Proofs.Ytgmglpnoppcnkaa
open Go.RowKit Go.Proofs.YtgmglpnoppcnkaaW.PrintWords Go.Proofs.YtgmglpnoppcnkaaW.PrintLast Go.Proofs.YtgmglpnoppcnkaaW.PrintMore
set_option linter.unusedVariables false
set_option linter.unusedSimpArgs false
set_option maxRecDepth 100000
attribute [local go_sem] Oper.semAt_some
theorem app_below {W2 Wc w5 : World} {v : Value} {n : Nat} {xs : List Value} (hH : Below W2.heap.size W2 Wc) (ho : Wc.ownsRow W2.heap.size 3 1 v n xs) (hg : Wc.grownBy w5 v.ownBlock) : Below W2.heap.size W2 w5 :=
  hH.trans ((Kp.grown hg).below hH.size (fun k hk => own_base ho k hk.symm))
theorem own_ints {w : World} {B g cap n : Nat} {x : List Int} (h : w.ownsRow B 3 1 (.slice (some ⟨g, 0, none⟩) n cap) n (ints x)) (hn : n ≤ 9223372036854775807) : IntsAt w (some ⟨g, 0, none⟩) x := by
  have hl : x.length = n := by have := h.1; rw [ints_len] at this; omega
  refine ⟨rfl, by omega, fun _ => ⟨_, rfl, fun j p hj => ⟨[.int .i64 p], rfl, rfl, fun i u hu => ?_⟩⟩⟩
  have hi0 : i = 0 := by
    have := (List.getElem?_eq_some_iff.1 hu).1
    simp at this; omega
  subst hi0
  have hjl : j < x.length := (List.getElem?_eq_some_iff.1 hj).1
  have e2 : (Kd.int .i64).sz = 1 := rfl
  rw [e2, Nat.mul_one, Nat.add_zero, Addr.add_mid, Nat.zero_add, h.cellAt j (by omega)]
  rw [List.getElem?_eq_getElem hjl] at hj
  have hu' : Value.int .i64 p = u := by simpa using hu
  have hp : x[j] = p := by simpa using hj
  simp [ints, hjl, ← hu', hp]
theorem own_cap {w : World} {B g cap n e size : Nat} {xs : List Value} (h : w.ownsRow B e size (.slice (some ⟨g, 0, none⟩) n cap) n xs) : n ≤ cap ∧ B ≤ g := by
  rcases h.2 with ⟨e3, _⟩ | ⟨g', cap', cur, hv, hb, hg, hc, hm, hs, ht⟩
  · simp at e3
  · simp only [Value.slice.injEq, Option.some.injEq, Addr.mk.injEq, and_true, true_and] at hv
    omega
theorem ints_drop {w : World} {ad : Addr} {l : List Int} (h : IntsAt w (some ad) l) (c i : Nat) (hi : i + 1 ≤ l.length) (hc : l.length ≤ c) : IntsAt w (if c = i + 1 then some ad else some ⟨ad.block, ad.off + (i + 1), none⟩) (l.drop (i + 1)) := by
  have h2 := h.2.1
  refine ⟨rfl, by rw [List.length_drop]; omega, fun h0 => ?_⟩
  rw [List.length_drop] at h0
  rw [if_neg (by omega)]
  refine ⟨_, rfl, fun j p hj => ⟨[.int .i64 p], rfl, rfl, fun q u hu => ?_⟩⟩
  have hq0 : q = 0 := by
    have := (List.getElem?_eq_some_iff.1 hu).1
    simp at this; omega
  subst hq0
  have e2 : (Kd.int .i64).sz = 1 := rfl
  rw [e2, Nat.mul_one, Nat.add_zero]
  rw [List.getElem?_drop] at hj
  have hjl : i + 1 + j < l.length := (List.getElem?_eq_some_iff.1 hj).1
  obtain ⟨ad', ea, hcell⟩ := int_get h (i + 1 + j) hjl
  cases ea
  rw [List.getElem?_eq_getElem hjl] at hj
  have hp : l[i + 1 + j] = p := by simpa using hj
  have hu' : Value.int .i64 p = u := by simpa using hu
  rw [← hu', ← hp, ← hcell]
  congr 1
  unfold Addr.add
  rw [if_neg (show ¬ (i + 1 + j = 0) by omega)]
  split
  · rename_i hj0; subst hj0; simp
  · simp; omega
theorem kp_below {a b c : World} {S : Nat → Prop} (h : Kp a b S) (k : Below a.heap.size b c) : Kp a c S :=
  ⟨k.os.trans h.os, k.tape.trans h.tape, k.output.trans h.output, Nat.le_trans h.size k.size, fun i hi hn => (k.block i hi).trans (h.block i hi hn)⟩
/-- At the head of the loop over the elements. -/
structure ChInv (y B : Nat) (M : Nat → Prop) (J : Nat → World → Prop) (W1 : World) (yb : Nat) (k : Nat) (l ch : List Int) (i p : Nat) (Ds : List Nat) (W : World) : Prop where
  kp : Kp W1 W M
  j : J p W
  drop : (chooseL (k + 1) l ch).drop p = chooseL (k + 1) (l.drop i) ch
  ple : p ≤ (chooseL (k + 1) l ch).length
  nodup : Ds.Nodup
  marks : ∀ D ∈ Ds, W.heap[D]? = some (.deferred (some [])) ∧ B ≤ D
/-- The loop's frame. -/
def ChLoop (y B kb cb lb : Nat) (M : Nat → Prop) (J : Nat → World → Prop) (W1 : World) (k : Nat) (l ch : List Int) (A1 : Option Addr) (c1 : Nat) (a : Act) (W : World) : Prop :=
  ∃ (i p : Nat) (Ds : List Nat) (u5 u6 u7 u16 u17 u18 u19 u20 u21 u22 u23 u24 u25 u26 u27 u28 u29 u30 u31 u32 u33 u34 u35 u36 u37 : Value), i ≤ l.length ∧ a = { tmps := #[.func (.yield y) #[] #[], .pointer (some ⟨kb, 0, none⟩), .pointer (some ⟨cb, 0, none⟩), .pointer (some ⟨lb, 0, none⟩), .pointer (some ⟨B, 0, none⟩), u5, u6, u7, .int .i64 ((k : Int) + 1), .bool false, undef, undef, undef, .slice A1 l.length c1, .int .i64 (l.length : Int), .int .i64 (i : Int), u16, u17, u18, u19, u20, u21, u22, u23, u24, u25, u26, u27, u28, u29, u30, u31, u32, u33, u34, u35, u36, u37], defers := Ds.map mk } ∧ Aside0 (ChInv y B M J W1 B k l ch i p Ds W)
def chMu (l : List Int) (a : Act) : Nat := l.length - (intOf (a.tmps.getD 15 undef)).toNat
set_option maxHeartbeats 8000000 in
theorem choose1_succ (k : Nat) (ih : ∀ (kb cb lb : Nat) (l ch : List Int) (A1 A2 : Option Addr) (c1 c2 : Nat) (W0 : World), ChCtx W0 kb cb lb k l ch A1 c1 A2 c2 →
      IterOk 129 #[.pointer (some ⟨kb, 0, none⟩), .pointer (some ⟨cb, 0, none⟩), .pointer (some ⟨lb, 0, none⟩)] (chooseL k l ch) (ChRd kb cb lb A1 A2) W0)
    (kb cb lb : Nat) (l ch : List Int) (A1 A2 : Option Addr) (c1 c2 : Nat) (W0 : World) (hc : ChCtx W0 kb cb lb (k + 1) l ch A1 c1 A2 c2) :
    IterOk 129 #[.pointer (some ⟨kb, 0, none⟩), .pointer (some ⟨cb, 0, none⟩), .pointer (some ⟨lb, 0, none⟩)] (chooseL (k + 1) l ch) (ChRd kb cb lb A1 A2) W0 := by
  intro y B M J Jx W hW hB hJ hJx hR hM h0
  have hcW := hc.below hW
  have hk1000 := hc.k20
  have hl20 := hc.l20
  refine (callsIn_wide (n := 0)).1 (callsIn_of_wp_marks Try.func129 rfl trivial ?_ rfl)
  simp only [Try.ntmps129, List.size_toArray, List.length_cons, List.length_nil, Nat.reduceAdd, Nat.reduceSub, Array.replicate_succ, Array.replicate_zero, List.push_toArray, List.append_toArray, List.nil_append, List.cons_append]
  obtain ⟨W1, hW1⟩ : ∃ W1, W1 = W.alloc (.cells #[.func (.yield y) #[] #[]] 221) := ⟨_, rfl⟩
  have hb1 : Below W.heap.size W W1 := by rw [hW1]; exact below_alloc (Below.refl _ _) _
  have hc1 := hcW.below hb1
  have hyb : W1.heap[B]? = some (.cells #[.func (.yield y) #[] #[]] 221 (0, 0)) := by rw [hW1, ← hB]; exact blk_new W _
  have e0 : W1.cell? ⟨kb, 0, none⟩ = some (.int .i64 ((k + 1 : Nat) : Int)) := blk_cell hc1.hkb 0
  have e1 : W1.cell? ⟨lb, 0, none⟩ = some (.slice A1 l.length c1) := blk_cell hc1.hlb 0
  have hj1 : J 0 W1 := hJ _ _ _ h0 (hb1.mono (by omega))
  have hsz : B + 1 ≤ W1.heap.size := by have := blk_lt hyb; omega
  have hk0 : ((k : Int) + 1 == 0) = false := by simp; omega
  have HC1 := Aside0.mk hc1
  have HYB := Aside0.mk hyb
  have HST := Aside0.mk (And.intro hJ hJx)
  have HR := Aside0.mk hR
  have HM := Aside0.mk hM
  have HI0 : Aside0 (ChInv y B M J W1 B k l ch 0 0 [] W1) := ⟨⟨Kp.refl _ _, hj1, rfl, Nat.zero_le _, List.nodup_nil, by simp⟩⟩
  have HBB := Aside0.mk hB
  rw [hW1] at e0 e1
  have HW1 := Aside0.mk hW1
  clear hc hcW hc1 hyb hj1 h0 hb1 hJ hJx hR hM hW
  gi_wp2
  refine wpIn_wide.2 (wp_scope_straight ((wpIn_wide (n := 0)).1 ?_))
  clear hB hW1
  gi_wp2
  refine wpIn_wide.2 (wp_label ?_)
  gi_wp2
  rw [← HW1.out]
  clear e0 e1 hk0
  refine wpIn_loop (ChLoop y B kb cb lb M J W1 k l ch A1 c1) (fun a _ => chMu l a) ⟨0, 0, [], undef, undef, undef, undef, undef, undef, undef, undef, undef, undef, undef, undef, undef, undef, undef, undef, undef, undef, undef, undef, undef, undef, undef, undef, undef, Nat.zero_le _, rfl, HI0⟩ ?_
  clear HI0
  rintro _ W2 ⟨i, p, Ds, u5, u6, u7, u16, u17, u18, u19, u20, u21, u22, u23, u24, u25, u26, u27, u28, u29, u30, u31, u32, u33, u34, u35, u36, u37, hile, rfl, HI⟩
  have hctx := HC1.out.keep HI.out.kp (fun i hi => (HM.out i hi).2)
  by_cases hgo : i < l.length
  · obtain ⟨u, hu⟩ : ∃ u, l[i] = u := ⟨_, rfl⟩
    obtain ⟨ad, rfl, e0⟩ := int_get hctx.hl i hgo
    rw [hu] at e0
    have HU := Aside0.mk (And.intro hu hctx)
    have hdg : decide ((i : Int) < (l.length : Int)) = true := by simp; exact hgo
    have C0 : ∀ W, Below W2.heap.size W2 W → W.cell? ⟨lb, 0, none⟩ = some (.slice (some ad) l.length c1) := fun W h => blk_cell (HU.out.2.below h).hlb 0
    have C1 : ∀ W, Below W2.heap.size W2 W → W.cell? ⟨kb, 0, none⟩ = some (.int .i64 ((k + 1 : Nat) : Int)) := fun W h => blk_cell (HU.out.2.below h).hkb 0
    have C2 : ∀ W, Below W2.heap.size W2 W → W.cell? ⟨cb, 0, none⟩ = some (.slice A2 ch.length c2) := fun W h => blk_cell (HU.out.2.below h).hcb 0
    have hwi : IntKind.i64.wrap ((i : Int) + 1) = (i : Int) + 1 := by rw [i64_w]; unfold wrap64; omega
    have hwk : IntKind.i64.wrap (k : Int) = (k : Int) := by rw [i64_w]; unfold wrap64; omega
    have hlc := HU.out.2.lc
    have hchl := HU.out.2.ck
    have hs1 : (0 : Int) ≤ (i : Int) + 1 := by omega
    have hs2 : (i : Int) + 1 ≤ (l.length : Int) := by omega
    have hs3 : (l.length : Int) ≤ (c1 : Int) := by omega
    have hs4 : i + 1 ≤ l.length := hgo
    have hu33 := Try.underlying33
    obtain ⟨A1', hA1⟩ : ∃ A1' : Option Addr, (if c1 = i + 1 then some ad else some (⟨ad.block, ad.off + (i + 1), none⟩ : Addr)) = A1' := ⟨_, rfl⟩
    have HA1 := Aside0.mk hA1
    clear hu hctx
    gi_wp2
    obtain ⟨i3, hi3, hy0, hy1, hy2⟩ := info_parts info3
    refine wpIn_wide.2 ?_
    clear e0 hdg
    go_region_held3 (fun W => Below W2.heap.size W2 W) (first | exact below_drew1 (Below.refl _ _) | exact below_step (by assumption) (by assumption) | assumption | exact below_drew1 (below_alloc (Below.refl _ _) _) | exact below_alloc (by assumption) _) (first
      | (go_at_call 98; refine (clone_any A2 c2 ch _ (HU.out.2.below (by assumption)).hch HU.out.2.nil (by omega)).mono ?_; rintro e Wc ⟨v, rfl, how0, hbc⟩; have how := Aside0.mk (own_less how0 (show W2.heap.size ≤ _ by first | exact Nat.le_refl _ | simp)); clear how0)
      | (refine step_append_lies _ rfl (.tmp 27) (.tmp 29) 33 rfl W2.heap.size 3 i3 _ 1 8 Try.underlying33 hi3 hy0 hy1 hy2 rfl (by decide) v ch.length (ints ch) (by go_simp) (how.out.alloc _) ⟨Wc.heap.size, 0, none⟩ 1 1 [.int .i64 u] (by go_simp) rfl (World.news_of_block (w := Wc.alloc (.cells #[.int .i64 u] 3)) (cs := #[.int .i64 u]) (blk_new Wc _)) (by simp [Value.oneCell']) (by decide) (by unfold maxLen; omega) (by omega) (Below.size (B := W2.heap.size) (w := W2) (by assumption)) _ rfl ?_; intro g cap w5 hown5 hg5 hor hlt5; have hk5 : Below W2.heap.size W2 w5 := app_below (by assumption) (how.out.alloc _) hg5; have HO5 := Aside0.mk hown5; clear hown5 hg5 hor hlt5)
      | (refine step_append_lies _ rfl (.tmp 27) (.tmp 29) 33 rfl W2.heap.size 3 i3 _ 1 8 Try.underlying33 hi3 hy0 hy1 hy2 rfl (by decide) v ch.length (ints ch) (by go_simp) how.out ⟨W2.heap.size, 0, none⟩ 1 1 [.int .i64 u] (by go_simp) rfl (World.news_of_block (w := Wc) (cs := #[.int .i64 u]) (blk_below (blk_drew (blk_new W2 _)) hbc)) (by simp [Value.oneCell']) (by decide) (by unfold maxLen; omega) (by omega) (Below.size (B := W2.heap.size) (w := W2) (by assumption)) _ rfl ?_; intro g cap w5 hown5 hg5 hor hlt5; have hk5 : Below W2.heap.size W2 w5 := app_below (by assumption) how.out hg5; have HO5 := Aside0.mk hown5; clear hown5 hg5 hor hlt5)
      | (go_at_call 123; refine (choose_calls _ _ _ _ ⟨_, _, _, rfl⟩ ⟨_, _, _, rfl⟩).mono ?_; rintro e W6 ⟨lb', kb', cb', rfl, hb6, hch60⟩; have hch6 := Aside0.mk hch60; clear hch60))
    generalize (Value.slice (some ⟨Wc.heap.size, 0, none⟩) 1 1) = s29
    rotate_left
    generalize (Value.slice (some ⟨W2.heap.size, 0, none⟩) 1 1) = s29
    rotate_left
    all_goals
      have hsz2 : B + 1 ≤ W2.heap.size := Nat.le_trans hsz HI.out.kp.size
      have hcap := own_cap HO5.out
      obtain ⟨q1, q2, q3, q4, q5, q6⟩ := hch6.out
      have hs5 := hk5.size
      have hlen1 : (l.drop (i + 1)).length = l.length - (i + 1) := List.length_drop
      have hlen2 : (ch ++ [u]).length = ch.length + 1 := by simp
      have hctx6 : ChCtx W6 kb' cb' lb' k (l.drop (i + 1)) (ch ++ [u]) A1' (c1 - (i + 1)) (some ⟨g, 0, none⟩) cap := by
        refine ⟨q2, by rw [hlen2]; exact q3, by rw [hlen1]; exact q1, ?_, ?_, by rw [hlen1]; omega, by rw [hlen2]; exact hcap.1, fun e => by simp at e, fun _ => ⟨_, rfl⟩, by omega, by rw [hlen1]; omega, by rw [hlen2]; omega⟩
        · rw [← HA1.out]; exact ints_drop (Kd.C_below HU.out.2.hl (below_step hk5 hb6)) c1 i hgo hlc
        · refine Kd.C_below (own_ints (B := W2.heap.size) (cap := cap) (n := ch.length + 1) (x := ch ++ [u]) ?_ (by omega)) hb6
          have := HO5.out
          simpa [ints] using this
      have hctxA := Aside0.mk hctx6
      have hM6 : ∀ j, M j → j < W6.heap.size ∧ ¬ ChRd kb' cb' lb' A1' (some ⟨g, 0, none⟩) j := by
        intro j hj
        have h1 := HM.out j hj
        have h6 := hb6.size
        refine ⟨by omega, ?_⟩
        rintro (e | e | e | ⟨a, ea, e⟩ | ⟨a, ea, e⟩)
        · omega
        · omega
        · omega
        · refine h1.2 (.inr (.inr (.inr (.inl ⟨ad, rfl, ?_⟩))))
          rw [← HA1.out] at ea
          rw [← e]
          split at ea <;> (cases ea; rfl)
        · cases ea
          simp only at e
          omega
      have hy6 : W6.heap[B]? = some (.cells #[.func (.yield y) #[] #[]] 221 (0, 0)) := blk_below (blk_below (HI.out.kp.blk HYB.out (fun e => by have := (HM.out _ e).1; omega)) hk5) hb6
      have HY6 := Aside0.mk hy6
      have HM6 := Aside0.mk hM6
      have HS6 : Aside0 (B + 1 ≤ W6.heap.size) := ⟨by have := hb6.size; omega⟩
      have HB6 := Aside0.mk (below_step hk5 hb6)
      clear hctx6 hM6 hy6 q1 q2 q3 q4 q5 q6 hs5 hlen1 hlen2 hcap hch6 HO5 how hbc hb6 hk5 hs1 hs2 hs3 hs4 hA1 C0 C1 C2 hwk
      gi_wp2
      refine wpIn_wide.2 (range_law (gf := 129) (lb := #[.pointer (some ⟨kb', 0, none⟩), .pointer (some ⟨cb', 0, none⟩), .pointer (some ⟨lb', 0, none⟩)]) rfl (callFunc_enter Try.func129 (by kernel_rfl) rfl) (ih kb' cb' lb' (l.drop (i + 1)) (ch ++ [u]) A1' (some ⟨g, 0, none⟩) (c1 - (i + 1)) cap W6 hctxA.out) M HM6.out
        (fun k' W' => J (p + k') W' ∧ Kp W6 W' M) (fun c k' W' => c = .exit 0 ∧ Jx (p + k') W' ∧ Kp W6 W' (fun i => i < B)) ?hI ?hIx ?h0
        (fun vv => { tmps := #[.func (.yield y) #[] #[], .pointer (some ⟨kb, 0, none⟩), .pointer (some ⟨cb, 0, none⟩), .pointer (some ⟨lb, 0, none⟩), .pointer (some ⟨B, 0, none⟩), .int .i64 (i : Int), .int .i64 u, vv, .int .i64 ((k : Int) + 1), .bool false, undef, undef, undef, .slice (some ad) l.length c1, .int .i64 (l.length : Int), .int .i64 (i : Int), .bool true, .int .i64 (i : Int), .pointer (some (ad.add i)), .int .i64 u, .slice (some ad) l.length c1, .int .i64 (i : Int), .int .i64 ((i : Int) + 1), .slice A1' (l.length - (i + 1)) (c1 - (i + 1)), .int .i64 ((k : Int) + 1), .int .i64 (k : Int), .slice A2 ch.length c2, v, .int .i64 u, s29, .slice (some ⟨g, 0, none⟩) (ch.length + 1) cap, .func (.func 129) #[] #[.pointer (some ⟨kb', 0, none⟩), .pointer (some ⟨cb', 0, none⟩), .pointer (some ⟨lb', 0, none⟩)], vv, u33, u34, u35, u36, u37], defers := [] }) ?assign ?body ?done ?stop)
      case hI => exact fun k' Wa Wb h hb => ⟨HST.out.1 _ _ _ h.1 (hb.mono (by have := HS6.out; omega)), kp_below h.2 hb⟩
      case hIx => exact fun c k' Wa Wb h hb hck => ⟨h.1, HST.out.2 _ _ _ h.2.1 (hb.mono (by have := HS6.out; omega)) hck, kp_below h.2.2 hb⟩
      case h0 => exact ⟨HST.out.1 _ _ _ HI.out.j (HB6.out.mono (by omega)), Kp.refl _ _⟩
      case assign =>
        intro lr vv Wa K hK
        gi_wp2
        exact hK
      case body =>
        rintro lr k' x A c Wa ⟨hj, hk⟩ hx hA hcx hszW
        have hx' : (chooseL (k + 1) l ch)[p + k']? = some x := by
          have hdr := HI.out.drop
          rw [List.drop_eq_getElem_cons hgo, chooseL_cons, HU.out.1] at hdr
          have h1 : ((chooseL (k + 1) l ch).drop p)[k']? = some x := by
            rw [hdr, List.getElem?_append_left (List.getElem?_eq_some_iff.1 hx).1]
            exact hx
          rwa [List.getElem?_drop] at h1
        obtain ⟨fn, tmps, assign, body, hy, hRd⟩ := HR.out (p + k') x Wa A c hj hx' hA hcx (by have := HS6.out; have := hk.size; omega)
        have e0 : Wa.cell? ⟨B, 0, none⟩ = some (.func (.yield y) #[] #[]) := blk_cell (hk.blk HY6.out (fun e => by have := (HM.out _ e).1; omega)) 0
        have HKA := Aside0.mk (And.intro hk hj)
        clear hj hk hx hA hcx hx'
        gi_wp2
        refine ⟨rfl, hRd.mono ?_⟩
        clear hy hRd e0
        rintro e Wb (⟨rfl, hj', hk'⟩ | ⟨rfl, hj', hk'⟩)
        · gi_wp2
          exact ⟨⟨hj', HKA.out.1.trans hk' (fun _ h => h) (fun _ _ h => h)⟩, hk'⟩
        · gi_wp2
          exact ⟨⟨rfl, hj', HKA.out.1.trans hk' (fun j h => (HM.out j h).1) (fun _ _ h => h)⟩, hk'.mono (fun j _ h => by have := HS6.out; omega)⟩
      case done =>
        rintro Wa hszW ⟨hj, hk⟩ hd
        have HD := Aside0.mk (And.intro hszW (And.intro hj (And.intro hk hd)))
        clear hszW hj hk hd
        gi_wp2
        obtain ⟨hszW, hj, hk, hd⟩ := HD.out
        have hdr := HI.out.drop
        rw [List.drop_eq_getElem_cons hgo, chooseL_cons, HU.out.1] at hdr
        have hlen := congrArg List.length hdr
        rw [List.length_drop, List.length_append] at hlen
        have hple := HI.out.ple
        have hs6 := HS6.out
        have hs26 := HB6.out.size
        refine ⟨⟨i + 1, p + (chooseL k (l.drop (i + 1)) (ch ++ [u])).length, W6.heap.size :: Ds, _, _, _, _, _, _, _, _, _, _, _, _, _, _, _, _, _, _, _, _, _, _, _, _, _, by omega, rfl, ⟨⟨?_, hj, ?_, by omega, ?_, ?_⟩⟩⟩, ?_⟩
        · exact (kp_below (HI.out.kp) (HB6.out.mono HI.out.kp.size)).trans hk (fun _ h => h) (fun _ _ h => h)
        · rw [← List.drop_drop, hdr, List.drop_left]
        · refine List.nodup_cons.2 ⟨fun hin => ?_, HI.out.nodup⟩
          have := blk_lt (HI.out.marks _ hin).1
          omega
        · intro D hD
          rcases List.mem_cons.1 hD with rfl | hD
          · exact ⟨hd, by omega⟩
          · obtain ⟨e1, e2⟩ := HI.out.marks D hD
            exact ⟨hk.blk (blk_below e1 HB6.out) (fun e => by have := (HM.out _ e).1; omega), e2⟩
        · unfold chMu
          simp [intOf]
          omega
      case stop =>
        rintro c k' Wa hszW hk' ⟨rfl, hj, hk⟩ hd
        have HD := Aside0.mk (And.intro hszW (And.intro hj (And.intro hk (And.intro hd hk'))))
        clear hszW hj hk hd hk'
        refine (wpIn_wide (n := 0)).1 ?_
        gi_wp2
        obtain ⟨hszW, hj, hk, hd, hk'⟩ := HD.out
        have hdr := HI.out.drop
        rw [List.drop_eq_getElem_cons hgo, chooseL_cons, HU.out.1] at hdr
        have hlen := congrArg List.length hdr
        rw [List.length_drop, List.length_append] at hlen
        have hple := HI.out.ple
        have hs6 := HS6.out
        have hs26 := HB6.out.size
        refine leaves_marks (B := B) (W6.heap.size :: Ds) Wa ?_ ?_ (fun W' hb hck hs => ⟨_, results_none rfl _ _ _, ⟨_, rfl⟩, by omega, .inr ⟨p + k', by omega, HST.out.2 _ _ _ hj hb hck⟩⟩)
        · refine List.nodup_cons.2 ⟨fun hin => ?_, HI.out.nodup⟩
          have := blk_lt (HI.out.marks _ hin).1
          omega
        · intro D hD
          rcases List.mem_cons.1 hD with rfl | hD
          · exact ⟨hd, by omega⟩
          · obtain ⟨e1, e2⟩ := HI.out.marks D hD
            exact ⟨hk.blk (blk_below e1 HB6.out) (fun e => by omega), e2⟩
  · obtain rfl : i = l.length := by omega
    clear hile hgo hctx
    gi_wp2
    have hdr := HI.out.drop
    rw [List.drop_length, chooseL_nil] at hdr
    have hlen := congrArg List.length hdr
    rw [List.length_drop, List.length_nil] at hlen
    have hple := HI.out.ple
    have hp : p = (chooseL (k + 1) l ch).length := by omega
    have hs := HI.out.kp.size
    refine leaves_marks (B := B) Ds W2 HI.out.nodup HI.out.marks (fun W' hb hck hs' => ⟨_, results_none rfl _ _ _, ⟨_, rfl⟩, by omega, .inl (by rw [← hp]; exact HST.out.1 _ _ _ HI.out.j hb)⟩)
/-- choose's closure is an iterator. -/
theorem choose1_iter : ∀ (k kb cb lb : Nat) (l ch : List Int) (A1 A2 : Option Addr) (c1 c2 : Nat) (W0 : World), ChCtx W0 kb cb lb k l ch A1 c1 A2 c2 →
    IterOk 129 #[.pointer (some ⟨kb, 0, none⟩), .pointer (some ⟨cb, 0, none⟩), .pointer (some ⟨lb, 0, none⟩)] (chooseL k l ch) (ChRd kb cb lb A1 A2) W0 := by
  intro k
  induction k with
  | zero => exact fun kb cb lb l ch A1 A2 c1 c2 W0 h => choose1_zero kb cb lb l ch A1 A2 c1 c2 W0 h
  | succ k ih => exact fun kb cb lb l ch A1 A2 c1 c2 W0 h => choose1_succ k ih kb cb lb l ch A1 A2 c1 c2 W0 h
end Go.Proofs.Ytgmglpnoppcnkaa
end
section
namespace Go.Proofs.Ytgmglpnoppcnkaa
open Go.RowKit Go.Proofs.YtgmglpnoppcnkaaW.PrintWords Go.Proofs.YtgmglpnoppcnkaaW.PrintLast Go.Proofs.YtgmglpnoppcnkaaW.PrintMore
set_option linter.unusedVariables false
set_option linter.unusedSimpArgs false
set_option maxRecDepth 100000
attribute [local go_sem] Oper.semAt_some
/-- The sets of k, k + 1, .. elements. -/
def choFrom (fine : List Int) : Nat → Nat → List (List Int)
  | _, 0 => []
  | k, n + 1 => chooseL k fine [] ++ choFrom fine (k + 1) n
/-- The sets of at most f elements. -/
def choicesL (f : Nat) (fine : List Int) : List (List Int) := choFrom fine 0 (f + 1)
/-- What choices' closure reads. -/
structure CoCtx (W : World) (fb cb cr wp : Nat) (f : Nat) (fine : List Int) (A : Option Addr) (c : Nat) (gone loose : List Bool) : Prop where
  hf : W.heap[fb]? = some (.cells #[.int .i64 f] 3 (0, 0))
  hc : W.heap[cb]? = some (.cells #[.pointer (some ⟨cr, 0, none⟩)] 137 (0, 0))
  hcr : W.heap[cr]? = some (.cells (careCs wp (.slice A fine.length c) gone loose).toArray 146 (0, 0))
  hfi : IntsAt W A fine
  fc : fine.length ≤ c
  l20 : fine.length ≤ 20
  f100 : f ≤ 100
def CoRd (fb cb cr : Nat) (A : Option Addr) (i : Nat) : Prop := i = fb ∨ i = cb ∨ i = cr ∨ (∃ ad, A = some ad ∧ ad.block = i)
theorem CoCtx.keep {W W' : World} {fb cb cr wp f : Nat} {fine : List Int} {A : Option Addr} {c : Nat} {gone loose : List Bool} {S : Nat → Prop} (h : CoCtx W fb cb cr wp f fine A c gone loose) (hk : Kp W W' S) (hS : ∀ i, S i → ¬ CoRd fb cb cr A i) : CoCtx W' fb cb cr wp f fine A c gone loose :=
  ⟨hk.blk h.hf (fun s => hS _ s (.inl rfl)), hk.blk h.hc (fun s => hS _ s (.inr (.inl rfl))), hk.blk h.hcr (fun s => hS _ s (.inr (.inr (.inl rfl)))), ints_kp h.hfi hk (fun ad e s => hS _ s (.inr (.inr (.inr ⟨ad, e, rfl⟩)))), h.fc, h.l20, h.f100⟩
theorem CoCtx.below {W W' : World} {fb cb cr wp f : Nat} {fine : List Int} {A : Option Addr} {c : Nat} {gone loose : List Bool} (h : CoCtx W fb cb cr wp f fine A c gone loose) (hb : Below W.heap.size W W') : CoCtx W' fb cb cr wp f fine A c gone loose :=
  h.keep (Kp.of_below hb (fun _ => False)) (fun _ s => s.elim)
structure CoInv (B : Nat) (M : Nat → Prop) (J : Nat → World → Prop) (W1 : World) (f : Nat) (fine : List Int) (i p : Nat) (Ds : List Nat) (W : World) : Prop where
  kp : Kp W1 W M
  j : J p W
  drop : (choicesL f fine).drop p = choFrom fine i (f + 1 - i)
  ple : p ≤ (choicesL f fine).length
  nodup : Ds.Nodup
  marks : ∀ D ∈ Ds, W.heap[D]? = some (.deferred (some [])) ∧ B ≤ D
/-- The loop's frame. -/
def CoLoop (y B fb cb : Nat) (M : Nat → Prop) (J : Nat → World → Prop) (W1 : World) (f : Nat) (fine : List Int) (a : Act) (W : World) : Prop :=
  ∃ (i p : Nat) (Ds : List Nat) (u4 u5 u9 u10 u11 u12 u13 u14 u15 u16 u17 u18 u19 u20 u21 u22 : Value), i ≤ f + 1 ∧ a = { tmps := #[.func (.yield y) #[] #[], .pointer (some ⟨fb, 0, none⟩), .pointer (some ⟨cb, 0, none⟩), .pointer (some ⟨B, 0, none⟩), u4, u5, .int .i64 (f : Int), .int .i64 ((f : Int) + 1), .int .i64 (i : Int), u9, u10, u11, u12, u13, u14, u15, u16, u17, u18, u19, u20, u21, u22], defers := Ds.map mk } ∧ Aside0 (CoInv B M J W1 f fine i p Ds W)
def coMu (f : Nat) (a : Act) : Nat := f + 1 - (intOf (a.tmps.getD 8 undef)).toNat
set_option maxHeartbeats 8000000 in
theorem choices1_iter (fb cb cr wp : Nat) (f : Nat) (fine : List Int) (A : Option Addr) (c : Nat) (gone loose : List Bool) (W0 : World) (hc : CoCtx W0 fb cb cr wp f fine A c gone loose) :
    IterOk 122 #[.pointer (some ⟨fb, 0, none⟩), .pointer (some ⟨cb, 0, none⟩)] (choicesL f fine) (CoRd fb cb cr A) W0 := by
  intro y B M J Jx W hW hB hJ hJx hR hM h0
  have hcW := hc.below hW
  have hf100 := hc.f100
  have hl20 := hc.l20
  refine (callsIn_wide (n := 0)).1 (callsIn_of_wp_marks Try.func122 rfl trivial ?_ rfl)
  simp only [Try.ntmps122, List.size_toArray, List.length_cons, List.length_nil, Nat.reduceAdd, Nat.reduceSub, Array.replicate_succ, Array.replicate_zero, List.push_toArray, List.append_toArray, List.nil_append, List.cons_append]
  obtain ⟨W1, hW1⟩ : ∃ W1, W1 = W.alloc (.cells #[.func (.yield y) #[] #[]] 221) := ⟨_, rfl⟩
  have hb1 : Below W.heap.size W W1 := by rw [hW1]; exact below_alloc (Below.refl _ _) _
  have hc1 := hcW.below hb1
  have hyb : W1.heap[B]? = some (.cells #[.func (.yield y) #[] #[]] 221 (0, 0)) := by rw [hW1, ← hB]; exact blk_new W _
  have e0 : W1.cell? ⟨fb, 0, none⟩ = some (.int .i64 (f : Int)) := blk_cell hc1.hf 0
  have hj1 : J 0 W1 := hJ _ _ _ h0 (hb1.mono (by omega))
  have hsz : B + 1 ≤ W1.heap.size := by have := blk_lt hyb; omega
  have hwf : IntKind.i64.wrap ((f : Int) + 1) = (f : Int) + 1 := by rw [i64_w]; unfold wrap64; omega
  have HC1 := Aside0.mk hc1
  have HYB := Aside0.mk hyb
  have HST := Aside0.mk (And.intro hJ hJx)
  have HR := Aside0.mk hR
  have HM := Aside0.mk hM
  have HI0 : Aside0 (CoInv B M J W1 f fine 0 0 [] W1) := ⟨⟨Kp.refl _ _, hj1, rfl, Nat.zero_le _, List.nodup_nil, by simp⟩⟩
  have HBB := Aside0.mk hB
  rw [hW1] at e0
  have HW1 := Aside0.mk hW1
  clear hc hcW hc1 hyb hj1 h0 hb1 hJ hJx hR hM hW hB hW1
  have hszA := HBB.out
  gi_wp2
  rw [← HW1.out]
  clear e0
  clear hszA
  refine wpIn_loop (CoLoop y B fb cb M J W1 f fine) (fun a _ => coMu f a) ⟨0, 0, [], undef, undef, undef, undef, undef, undef, undef, undef, undef, undef, undef, undef, undef, undef, undef, undef, Nat.zero_le _, rfl, HI0⟩ ?_
  clear HI0
  rintro _ W2 ⟨i, p, Ds, u4, u5, u9, u10, u11, u12, u13, u14, u15, u16, u17, u18, u19, u20, u21, u22, hile, rfl, HI⟩
  have hctx := HC1.out.keep HI.out.kp (fun i hi => (HM.out i hi).2)
  by_cases hgo : i < f + 1
  · have hdg : decide ((i : Int) < (f : Int) + 1) = true := by simp; omega
    have hwi : IntKind.i64.wrap ((i : Int) + 1) = (i : Int) + 1 := by rw [i64_w]; unfold wrap64; omega
    have e0 : W2.cell? ⟨cb, 0, none⟩ = some (.pointer (some ⟨cr, 0, none⟩)) := blk_cell hctx.hc 0
    have e1 : W2.cell? ⟨cr, 1, none⟩ = some (.slice A fine.length c) := blk_cell hctx.hcr 1
    have HU := Aside0.mk hctx
    clear hctx
    gi_wp2
    refine ⟨trivial, rfl, (callsIn_wide.2 (choose_calls _ _ _ _ ⟨_, _, _, rfl⟩ ⟨_, _, _, rfl⟩)).mono ?_⟩
    rintro e W6 ⟨lb', kb', cb', rfl, hb6, hch60⟩
    have hch6 := Aside0.mk hch60
    clear hch60
    gi_wp2
    obtain ⟨q1, q2, q3, q4, q5, q6⟩ := hch6.out
    have hsz2 : B + 1 ≤ W2.heap.size := Nat.le_trans hsz HI.out.kp.size
    have hs6 := hb6.size
    have hctx6 : ChCtx W6 kb' cb' lb' i fine [] A c none 0 := by
      refine ⟨q2, q3, q1, Kd.C_below HU.out.hfi hb6, ⟨rfl, by simp, fun h => by simp at h⟩, HU.out.fc, Nat.le_refl _, fun _ => ⟨rfl, rfl⟩, fun h => absurd rfl h, by omega, hl20, by simp; omega⟩
    have hctxA := Aside0.mk hctx6
    have hM6 : ∀ j, M j → j < W6.heap.size ∧ ¬ ChRd kb' cb' lb' A none j := by
      intro j hj
      have h1 := HM.out j hj
      refine ⟨by omega, ?_⟩
      rintro (e | e | e | ⟨a, ea, e⟩ | ⟨a, ea, e⟩)
      · omega
      · omega
      · omega
      · exact h1.2 (.inr (.inr (.inr ⟨a, ea, e⟩)))
      · cases ea
    have hy6 : W6.heap[B]? = some (.cells #[.func (.yield y) #[] #[]] 221 (0, 0)) := blk_below (HI.out.kp.blk HYB.out (fun e => by have := (HM.out _ e).1; omega)) hb6
    have HY6 := Aside0.mk hy6
    have HM6 := Aside0.mk hM6
    have HS6 : Aside0 (B + 1 ≤ W6.heap.size) := ⟨by omega⟩
    have HB6 := Aside0.mk hb6
    clear hctx6 hM6 hy6 q1 q2 q3 q4 q5 q6 hs6 hch6 hb6 e0 e1
    refine wpIn_wide.2 (range_law (gf := 129) (lb := #[.pointer (some ⟨kb', 0, none⟩), .pointer (some ⟨cb', 0, none⟩), .pointer (some ⟨lb', 0, none⟩)]) rfl (callFunc_enter Try.func129 (by kernel_rfl) rfl) (choose1_iter i kb' cb' lb' fine [] A none c 0 W6 hctxA.out) M HM6.out
      (fun k' W' => J (p + k') W' ∧ Kp W6 W' M) (fun cc k' W' => cc = .ret ∧ Jx (p + k') W' ∧ Kp W6 W' (fun i => i < B)) ?hI ?hIx ?h0
      (fun vv => { tmps := #[.func (.yield y) #[] #[], .pointer (some ⟨fb, 0, none⟩), .pointer (some ⟨cb, 0, none⟩), .pointer (some ⟨B, 0, none⟩), .int .i64 (i : Int), vv, .int .i64 (f : Int), .int .i64 ((f : Int) + 1), .int .i64 (i : Int), .bool true, .int .i64 (i : Int), .pointer (some ⟨cr, 0, none⟩), .pointer (some ⟨cr, 0, none⟩), .pointer (some ⟨cr, 1, none⟩), .slice A fine.length c, .int .i64 (i : Int), .func (.func 129) #[] #[.pointer (some ⟨kb', 0, none⟩), .pointer (some ⟨cb', 0, none⟩), .pointer (some ⟨lb', 0, none⟩)], vv, u18, u19, u20, u21, u22], defers := [] }) ?assign ?body ?done ?stop)
    case hI => exact fun k' Wa Wb h hb => ⟨HST.out.1 _ _ _ h.1 (hb.mono (by have := HS6.out; omega)), kp_below h.2 hb⟩
    case hIx => exact fun cc k' Wa Wb h hb hck => ⟨h.1, HST.out.2 _ _ _ h.2.1 (hb.mono (by have := HS6.out; omega)) hck, kp_below h.2.2 hb⟩
    case h0 => exact ⟨HST.out.1 _ _ _ HI.out.j (HB6.out.mono (by omega)), Kp.refl _ _⟩
    case assign =>
      intro lr vv Wa K hK
      gi_wp2
      exact hK
    case body =>
      rintro lr k' x Ax cx Wa ⟨hj, hk⟩ hx hA hcx hszW
      have hx' : (choicesL f fine)[p + k']? = some x := by
        have hdr := HI.out.drop
        rw [show f + 1 - i = (f - i) + 1 by omega, choFrom] at hdr
        have h1 : ((choicesL f fine).drop p)[k']? = some x := by
          rw [hdr, List.getElem?_append_left (List.getElem?_eq_some_iff.1 hx).1]
          exact hx
        rwa [List.getElem?_drop] at h1
      obtain ⟨fn, tmps, assign, body, hy, hRd⟩ := HR.out (p + k') x Wa Ax cx hj hx' hA hcx (by have := HS6.out; have := hk.size; omega)
      have e0 : Wa.cell? ⟨B, 0, none⟩ = some (.func (.yield y) #[] #[]) := blk_cell (hk.blk HY6.out (fun e => by have := (HM.out _ e).1; omega)) 0
      have HKA := Aside0.mk (And.intro hk hj)
      clear hj hk hx hA hcx hx'
      gi_wp2
      refine ⟨rfl, hRd.mono ?_⟩
      clear hy hRd e0
      rintro e Wb (⟨rfl, hj', hk'⟩ | ⟨rfl, hj', hk'⟩)
      · gi_wp2
        exact ⟨⟨hj', HKA.out.1.trans hk' (fun _ h => h) (fun _ _ h => h)⟩, hk'⟩
      · gi_wp2
        exact ⟨⟨rfl, hj', HKA.out.1.trans hk' (fun j h => (HM.out j h).1) (fun _ _ h => h)⟩, hk'.mono (fun j _ h => by have := HS6.out; omega)⟩
    case done =>
      rintro Wa hszW ⟨hj, hk⟩ hd
      have HD := Aside0.mk (And.intro hszW (And.intro hj (And.intro hk hd)))
      clear hszW hj hk hd
      gi_wp2
      obtain ⟨hszW, hj, hk, hd⟩ := HD.out
      have hdr := HI.out.drop
      rw [show f + 1 - i = (f - i) + 1 by omega, choFrom] at hdr
      have hlen := congrArg List.length hdr
      rw [List.length_drop, List.length_append] at hlen
      have hple := HI.out.ple
      have hs6 := HS6.out
      have hs26 := HB6.out.size
      refine ⟨⟨i + 1, p + (chooseL i fine []).length, W6.heap.size :: Ds, _, _, _, _, _, _, _, _, _, _, _, _, _, _, _, _, by omega, rfl, ⟨⟨?_, hj, ?_, by omega, ?_, ?_⟩⟩⟩, ?_⟩
      · exact (kp_below (HI.out.kp) (HB6.out.mono HI.out.kp.size)).trans hk (fun _ h => h) (fun _ _ h => h)
      · rw [← List.drop_drop, hdr, List.drop_left, show f + 1 - (i + 1) = f - i by omega]
      · refine List.nodup_cons.2 ⟨fun hin => ?_, HI.out.nodup⟩
        have := blk_lt (HI.out.marks _ hin).1
        omega
      · intro D hD
        rcases List.mem_cons.1 hD with rfl | hD
        · exact ⟨hd, by omega⟩
        · obtain ⟨e1, e2⟩ := HI.out.marks D hD
          exact ⟨hk.blk (blk_below e1 HB6.out) (fun e => by have := (HM.out _ e).1; omega), e2⟩
      · unfold coMu
        simp [intOf]
        omega
    case stop =>
      rintro cc k' Wa hszW hk' ⟨rfl, hj, hk⟩ hd
      have HD := Aside0.mk (And.intro hszW (And.intro hj (And.intro hk (And.intro hd hk'))))
      clear hszW hj hk hd hk'
      refine (wpIn_wide (n := 0)).1 ?_
      gi_wp2
      obtain ⟨hszW, hj, hk, hd, hk'⟩ := HD.out
      have hdr := HI.out.drop
      rw [show f + 1 - i = (f - i) + 1 by omega, choFrom] at hdr
      have hlen := congrArg List.length hdr
      rw [List.length_drop, List.length_append] at hlen
      have hple := HI.out.ple
      have hs6 := HS6.out
      have hs26 := HB6.out.size
      refine leaves_marks (B := B) (W6.heap.size :: Ds) Wa ?_ ?_ (fun W' hb hck hs => ⟨_, results_none rfl _ _ _, ⟨_, rfl⟩, by omega, .inr ⟨p + k', by omega, HST.out.2 _ _ _ hj hb hck⟩⟩)
      · refine List.nodup_cons.2 ⟨fun hin => ?_, HI.out.nodup⟩
        have := blk_lt (HI.out.marks _ hin).1
        omega
      · intro D hD
        rcases List.mem_cons.1 hD with rfl | hD
        · exact ⟨hd, by omega⟩
        · obtain ⟨e1, e2⟩ := HI.out.marks D hD
          exact ⟨hk.blk (blk_below e1 HB6.out) (fun e => by omega), e2⟩
  · obtain rfl : i = f + 1 := by omega
    have hdg : decide (((f + 1 : Nat) : Int) < (f : Int) + 1) = false := by simp
    clear hile hgo hctx
    gi_wp2
    have hdr := HI.out.drop
    rw [Nat.sub_self, choFrom] at hdr
    have hlen := congrArg List.length hdr
    rw [List.length_drop, List.length_nil] at hlen
    have hple := HI.out.ple
    have hp : p = (choicesL f fine).length := by omega
    have hs := HI.out.kp.size
    refine leaves_marks (B := B) Ds W2 HI.out.nodup HI.out.marks (fun W' hb hck hs' => ⟨_, results_none rfl _ _ _, ⟨_, rfl⟩, by omega, .inl (by rw [← hp]; exact HST.out.1 _ _ _ HI.out.j hb)⟩)
end Go.Proofs.Ytgmglpnoppcnkaa
end
section
namespace Go.Proofs.Ytgmglpnoppcnkaa
open Go.RowKit
set_option linter.unusedVariables false
variable {P : Program} {ops : Array Oper} {Q : Exit → Act → World → Prop}
theorem oper_round (l : Nat) {o : Oper} (hd : ∀ c, o.op ≠ .defer c) {K : Act → World → Prop} {a : Act} {w : World} (h : o.wp P a w K Q) : o.wpIn (FW.inRound l) 0 P a w K Q := by
  unfold Oper.wp at h
  unfold Oper.wpIn
  refine ⟨fun _ _ => trivial, ?_⟩
  show o.uponIn _ _ _ _ _ _ ((o.semAt (some l) a.eval).run P w)
  rw [Oper.semAt_some l _ _ hd]
  generalize (execOp a.eval o).run P w = r at h
  cases r with
  | ok x w' =>
    cases x <;> simp only [Oper.upon, Oper.uponIn] at h ⊢ <;> first
      | exact h
      | exact ⟨fun h => by simp [Fence.wide] at h, CallsIn.inRound l (callsIn_wide.2 h)⟩
      | exact ⟨fun h => by simp [Fence.wide] at h, fun c cs _ => let ⟨v, w', r, s⟩ := h c cs; ⟨v, w', r, stepsIn_wide.2 s⟩⟩
      | exact h.elim
  | halt x w' => cases x <;> simp only [Oper.upon, Oper.uponIn] at h ⊢ <;> exact h
theorem wpOp_round (l : Nat) {i : Nat} (hd : ∀ o, ops[i]? = some o → ∀ c, o.op ≠ .defer c) (hq : ¬ LetsOut Q) {K : Act → World → Prop} {a : Act} {w : World} (h : wpOp P ops Q i K a w) : wpOpIn (FW.inRound l) 0 P ops Q i K a w := by
  unfold wpOp at h
  unfold wpOpIn
  cases ho : ops[i]? with
  | none => simpa [ho] using h
  | some o =>
    simp only [ho] at h ⊢
    split
    · rename_i hw
      simp only [hw, if_true] at h
      rcases h with h | h
      · exact oper_round l (hd o ho) h
      · exact absurd h.2 hq
    · rename_i hw
      simp only [hw] at h
      exact ⟨fun _ _ => trivial, h⟩
theorem wpAny_round (l : Nat) {md : Region.Mode} (hd : ∀ (i : Nat) (o : Oper), ops[i]? = some o → ∀ c, o.op ≠ .defer c) (hq : ¬ LetsOut Q) : ∀ (fuel : Nat) (listed : Array Bool) (a : Act) (w : World), wpAny P md ops Q fuel listed a w → wpAnyIn (FW.inRound l) 0 P md ops Q fuel listed a w
  | 0, _, _, _, h => h
  | fuel + 1, _, _, _, h => ⟨h.1, fun i hi => wpOpIn_mono (fun a' w' h' => wpAny_round l hd hq fuel _ a' w' h') (wpOp_round l (hd i) hq (h.2 i hi))⟩
def noDefer (ops : Array Oper) : Bool := ops.toList.all (fun o => match o.op with | .defer _ => false | _ => true)
theorem noDefer_spec (h : noDefer ops = true) : ∀ (i : Nat) (o : Oper), ops[i]? = some o → ∀ c, o.op ≠ .defer c := fun i o ho c e => by
  have hm : o ∈ ops.toList := by
    have := Array.mem_of_getElem? ho
    exact Array.mem_toList_iff.2 this
  have := List.all_eq_true.1 h o hm
  rw [e] at this
  cases this
/-- The region in a round, held by S. -/
theorem region_round (l : Nat) {S : World → Prop} {id : Nat} {a : Act} {w : World} (hm : P.follows .mixedOrders = true) (hd : noDefer ops = true) (hq : ¬ LetsOut Q) (hS : S w.drew)
    (h : S w.drew → wpAnyH P .any ops Q S ops.size (Array.replicate ops.size false) a w.drew) : (Code.region id ops true).wpIn (FW.inRound l) 0 P Q a w :=
  wpIn_region_any hm (wpAny_round l (noDefer_spec hd) hq _ _ _ _ (wpAny_of_held _ _ _ _ (h hS)))
end Go.Proofs.Ytgmglpnoppcnkaa
end
section
namespace Go.Proofs.Ytgmglpnoppcnkaa
open Go.RowKit Go.Proofs.YtgmglpnoppcnkaaW.PrintWords Go.Proofs.YtgmglpnoppcnkaaW.PrintLast Go.Proofs.YtgmglpnoppcnkaaW.PrintMore
set_option linter.unusedVariables false
set_option linter.unusedSimpArgs false
set_option maxRecDepth 100000
attribute [local go_sem] Oper.semAt_some
set_option maxHeartbeats 1000000 in
theorem choices_calls (cr : Nat) (f : Int) (w : World) :
    Calls Try.prog 107 #[.pointer (some ⟨cr, 0, none⟩), .int .i64 f] w fun e w' => ∃ fb cb, e = .returned (.func (.func 122) #[] #[.pointer (some ⟨fb, 0, none⟩), .pointer (some ⟨cb, 0, none⟩)]) ∧ Below w.heap.size w w' ∧
      w'.heap[fb]? = some (.cells #[.int .i64 f] 3 (0, 0)) ∧ w'.heap[cb]? = some (.cells #[.pointer (some ⟨cr, 0, none⟩)] 137 (0, 0)) ∧ (w.heap.size ≤ fb ∧ w.heap.size ≤ cb) := by
  go_enter Try.func107, Try.ntmps107
  go_wp2_with ((with_reducible refine gate_dst (N := 2) rfl ?_); refine hold ?_)
  refine box_event rfl (N := 2) rfl (cs := #[.pointer (some ⟨cr, 0, none⟩)]) (t := 137) (by go_simp) ?_
  intro cb hcb w1 hb1 hB1
  have Hb1 := Aside0.mk (And.intro hb1 (And.intro hB1 (show w.heap.size ≤ cb by omega)))
  clear hcb hb1 hB1
  go_wp2_with ((with_reducible refine gate_dst (N := 3) rfl ?_); refine hold ?_)
  refine box_event rfl (N := 3) rfl (cs := #[.int .i64 f]) (t := 3) (by go_simp) ?_
  intro fb hfb w2 hb2 hB2
  have Hb2 := Aside0.mk (And.intro hb2 (And.intro hB2 (show w.heap.size ≤ fb by have := Hb1.out.2.1.size; omega)))
  clear hfb hb2 hB2
  go_wp2
  go_ret
  exact ⟨fb, cb, rfl, below_step Hb1.out.2.1 Hb2.out.2.1, Hb2.out.1, blk_below Hb1.out.1 Hb2.out.2.1, Hb2.out.2.2, Hb1.out.2.2⟩
open Classical in
/-- The list of the least times. -/
noncomputable def leastL (ls : List Lk) (ue : Lk → Option Int) (sn b : Int) (nn : Nat) : List Int := if h : ∃ o, LeastAt ls ue sn b nn o then Classical.choose h else []
theorem leastL_eq {ls : List Lk} {ue : Lk → Option Int} {sn b : Int} {nn : Nat} {o : List Int} (h : LeastAt ls ue sn b nn o) : leastL ls ue sn b nn = o := by
  unfold leastL
  rw [dif_pos ⟨o, h⟩]
  exact (Classical.choose_spec (⟨o, h⟩ : ∃ o, LeastAt ls ue sn b nn o)).unique h
def maxL (a b : List Int) : List Int := List.zipWith max a b
/-- The upper bounds with some units failed. -/
noncomputable def hiL (nn : Nat) (ls : List Lk) (sn hi : Int) (st : List Int) (us : List Int) : List Int := leastL ls (ueHi (setUs (looseB st) us)) sn hi nn
/-- The greatest ones over some sets. -/
noncomputable def worstOf (nn : Nat) (ls : List Lk) (sn hi : Int) (st : List Int) (xss : List (List Int)) : List Int := xss.foldl (fun o us => maxL o (hiL nn ls sn hi st us)) (hiL nn ls sn hi st [])
theorem worstOf_snoc (nn : Nat) (ls : List Lk) (sn hi : Int) (st : List Int) (xss : List (List Int)) (x : List Int) : worstOf nn ls sn hi st (xss ++ [x]) = maxL (worstOf nn ls sn hi st xss) (hiL nn ls sn hi st x) := by simp [worstOf]
/-- What a function returns that hands back a row of integers of its own. -/
def ListPost (w : World) (nn : Nat) (o : List Int) (e : Ending) (w' : World) : Prop :=
  ∃ g, e = .returned (.slice (some ⟨g, 0, none⟩) nn nn) ∧ w.heap.size ≤ g ∧ w'.heap[g]? = some (.cells (intsCs o) 3 (0, 0)) ∧ o.length = nn ∧ Below w.heap.size w w'
theorem without_list (cb B nn : Nat) (uu : Int) (sv0 : Value) (sn lo hi : Int) (ls : List Lk) (st : List Int) (A : Option Addr) (c : Nat) (us : List Int) (w : World)
    (hw : CareAt w B cb nn uu sv0 sn lo hi ls st) (hO : StOk nn uu ls sn lo hi) (hr : IntsAt w A us) (hc : us.length ≤ c) (hu : ∀ u ∈ us, 0 ≤ u ∧ u < 20) :
    Calls Try.prog 100 #[.pointer (some ⟨cb, 0, none⟩), .slice A us.length c] w (ListPost w nn (hiL nn ls sn hi st us)) :=
  (without_calls cb B nn uu sv0 sn lo hi ls st A c us w hw hO hr hc hu).mono fun e w' ⟨g, o, he, hg, hb, hl, hB⟩ => by
    have := leastL_eq hl
    exact ⟨g, he, hg, by rw [hiL, this]; exact hb, by rw [hiL, this]; exact hl.len, hB⟩
theorem withFrom_mem (s : Int) (l : List Int) : ∀ (i : Nat) (u : Int), u ∈ withFrom s i l → (i : Int) ≤ u ∧ u < i + l.length := by
  induction l with
  | nil => intro i u h; simp [withFrom] at h
  | cons x r ih =>
    intro i u h
    simp only [withFrom] at h
    have : u = i ∨ u ∈ withFrom s (i + 1) r := by
      split at h
      · exact (List.mem_cons.1 h)
      · exact .inr h
    rcases this with rfl | h
    · simp; omega
    · have := ih (i + 1) u h
      simp only [List.length_cons]
      omega
theorem chooseL_mem : ∀ (k : Nat) (l ch x : List Int), x ∈ chooseL k l ch → ∀ u ∈ x, u ∈ ch ∨ u ∈ l := by
  intro k l
  induction l generalizing k with
  | nil =>
    intro ch x hx u hu
    cases k with
    | zero => rw [chooseL_zero, List.mem_singleton] at hx; subst hx; exact .inl hu
    | succ k => rw [chooseL_nil] at hx; cases hx
  | cons y r ih =>
    intro ch x hx u hu
    cases k with
    | zero => rw [chooseL_zero, List.mem_singleton] at hx; subst hx; exact .inl hu
    | succ k =>
      rw [chooseL_cons, List.mem_append] at hx
      rcases hx with hx | hx
      · rcases ih k (ch ++ [y]) x hx u hu with h | h
        · rcases List.mem_append.1 h with h | h
          · exact .inl h
          · exact .inr (by rw [List.mem_singleton.1 h]; exact List.mem_cons_self)
        · exact .inr (List.mem_cons_of_mem _ h)
      · rcases ih (k + 1) ch x hx u hu with h | h
        · exact .inl h
        · exact .inr (List.mem_cons_of_mem _ h)
theorem choFrom_mem (fine : List Int) : ∀ (n k : Nat) (x : List Int), x ∈ choFrom fine k n → ∀ u ∈ x, u ∈ fine := by
  intro n
  induction n with
  | zero => intro k x h; cases h
  | succ n ih =>
    intro k x h u hu
    rcases List.mem_append.1 h with h | h
    · rcases chooseL_mem k fine [] x h u hu with h | h
      · cases h
      · exact h
    · exact ih (k + 1) x h u hu
theorem choices_mem (f : Nat) (st x : List Int) (hst : st.length ≤ 20) (h : x ∈ choicesL f (fineL st)) : ∀ u ∈ x, 0 ≤ u ∧ u < 20 := by
  intro u hu
  have := withFrom_mem 1 st 0 u (choFrom_mem _ _ _ x h u hu)
  omega
theorem own_ints_any {w : World} {B : Nat} {fv : Value} {x : List Int} (h : w.ownsRow B 3 1 fv x.length (ints x)) (hn : x.length ≤ 9223372036854775807) : ∃ A c, fv = .slice A x.length c ∧ x.length ≤ c ∧ IntsAt w A x ∧ ∀ ad, A = some ad → B ≤ ad.block := by
  rcases h.2 with ⟨e, e0⟩ | ⟨g, cap, cur, e, hB, hg, hc, _⟩
  · have : x = [] := List.length_eq_zero_iff.1 e0
    subst this
    exact ⟨none, 0, e, Nat.le_refl _, ⟨rfl, by simp, fun h => by simp at h⟩, fun ad h => by cases h⟩
  · subst e
    exact ⟨_, cap, rfl, hc, own_ints h hn, fun ad h => by cases h; exact hB⟩
/-- The first j ones are the greater ones. -/
def mixL (o t : List Int) (j : Nat) : List Int := (maxL o t).take j ++ o.drop j
theorem mixL_end {o t : List Int} {n : Nat} (ho : o.length = n) (ht : t.length = n) : mixL o t n = maxL o t := by
  unfold mixL maxL
  rw [List.drop_of_length_le (by omega), List.append_nil, List.take_of_length_le (by rw [List.length_zipWith]; omega)]
theorem mixL_get {o t : List Int} {n j : Nat} (ho : o.length = n) (ht : t.length = n) (hj : j < n) : (mixL o t j)[j]? = some (o[j]'(by omega)) := by
  unfold mixL maxL
  rw [List.getElem?_append_right (by rw [List.length_take, List.length_zipWith]; omega), List.length_take, List.length_zipWith, List.getElem?_drop]
  rw [show j + (j - min j (min o.length t.length)) = j by omega, List.getElem?_eq_getElem (by omega)]
theorem mixL_set {o t : List Int} {n j : Nat} (ho : o.length = n) (ht : t.length = n) (hj : j < n) : (mixL o t j).set j (max (o[j]'(by omega)) (t[j]'(by omega))) = mixL o t (j + 1) := by
  unfold mixL
  have hl : ((maxL o t).take j).length = j := by unfold maxL; rw [List.length_take, List.length_zipWith]; omega
  have hz : j < (maxL o t).length := by unfold maxL; rw [List.length_zipWith]; omega
  rw [List.set_append_right _ _ (by omega), hl, Nat.sub_self, List.drop_eq_getElem_cons (show j < o.length by omega), List.set_cons_zero, List.take_add_one, List.getElem?_eq_getElem hz]
  simp [maxL]
theorem fine_le (st : List Int) : (fineL st).length ≤ st.length := withFrom_len 1 st 0
set_option maxHeartbeats 8000000 in
theorem worst_calls (cr B nn : Nat) (uu : Int) (sv0 : Value) (sn lo hi : Int) (ls : List Lk) (st : List Int) (f : Nat) (w : World)
    (hw : CareAt w B cr nn uu sv0 sn lo hi ls st) (hO : StOk nn uu ls sn lo hi) (hst : st.length ≤ 20) (hf : f ≤ 100) :
    Calls Try.prog 57 #[.pointer (some ⟨cr, 0, none⟩), .int .i64 f] w (ListPost w nn (worstOf nn ls sn hi st (choicesL f (fineL st)))) := by
  have HW := Aside0.mk hw
  have HO := Aside0.mk hO
  clear hw hO
  refine (callsIn_wide (n := 0)).1 (callsIn_of_wp_marks Try.func57 rfl trivial ?_ rfl)
  simp only [Try.ntmps57, List.size_toArray, List.length_cons, List.length_nil, Nat.reduceAdd, Nat.reduceSub, Array.replicate_succ, Array.replicate_zero, List.push_toArray, List.append_toArray, List.nil_append, List.cons_append]
  refine wpIn_wide.2 ?_
  go_wp2_with ((with_reducible refine gate_dst (N := 2) rfl ?_); refine hold ?_)
  refine box_event rfl (N := 2) rfl (cs := #[.pointer (some ⟨cr, 0, none⟩)]) (t := 137) (by go_simp) ?_
  intro bb hbb w1 hb1 hB1
  have HB1 := Aside0.mk (And.intro hB1 (And.intro hb1 (show w.heap.size ≤ bb by omega)))
  have c0 : w1.cell? ⟨bb, 0, none⟩ = some (.pointer (some ⟨cr, 0, none⟩)) := blk_cell hb1 0
  clear hbb hb1 hB1
  go_wp2_with (first | (go_at_call 100; refine (without_list cr B nn uu sv0 sn lo hi ls st none 0 [] _ (HW.out.below HB1.out.1) HO.out ⟨rfl, by simp, fun h => by simp at h⟩ (Nat.le_refl _) (by simp)).mono ?_; rintro e w2 ⟨go, rfl, hgo, hgb, hlen, hb2⟩; have H2 := Aside0.mk (And.intro hgo (And.intro hgb (And.intro hlen hb2))); have c1 : (w2.alloc (.cells #[.slice (some ⟨go, 0, none⟩) nn nn] 33)).cell? ⟨bb, 0, none⟩ = some (.pointer (some ⟨cr, 0, none⟩)) := (blk_cell (blk_below HB1.out.2.1 (below_step hb2 (below_alloc (Below.refl _ _) _))) 0); clear hgo hgb hlen hb2 c0) | (go_at_call 107; refine (choices_calls cr f _).mono ?_; rintro e W6 ⟨fb, cb, rfl, hb3, q1, q2, q3⟩; have H3 := Aside0.mk (And.intro hb3 (And.intro q1 (And.intro q2 q3))); clear hb3 q1 q2 q3 c1))
  obtain ⟨hgo, hgb, hlen, hb2⟩ := H2.out
  obtain ⟨hb3, q1, q2, q3, q4⟩ := H3.out
  obtain ⟨ob, hob⟩ : ∃ ob, ob = w2.heap.size := ⟨_, rfl⟩
  rw [← hob]
  have hbA : Below w2.heap.size w2 (w2.alloc (.cells #[.slice (some ⟨go, 0, none⟩) nn nn] 33)) := below_alloc (Below.refl _ _) _
  have hb23 : Below w2.heap.size w2 W6 := below_step hbA hb3
  have hb6 : Below w.heap.size w W6 := below_step HB1.out.1 (below_step hb2 hb23)
  have hob6 : W6.heap[ob]? = some (.cells #[.slice (some ⟨go, 0, none⟩) nn nn] 33 (0, 0)) := by
    refine blk_below ?_ hb3
    rw [hob]; exact blk_new w2 _
  have hgo6 : W6.heap[go]? = some (.cells (intsCs (worstOf nn ls sn hi st [])) 3 (0, 0)) := blk_below hgb hb23
  have hbb6 : W6.heap[bb]? = some (.cells #[.pointer (some ⟨cr, 0, none⟩)] 137 (0, 0)) := blk_below HB1.out.2.1 (below_step hb2 hb23)
  have hcare6 := HW.out.below hb6
  obtain ⟨wp, fv, h0, hcr, how, hweb⟩ := HW.out
  have hfl := fine_le st
  obtain ⟨A, c, hfv, hfc, hfi, -⟩ := own_ints_any how (by omega)
  have hfb : ∀ ad, A = some ad → ad.block < w.heap.size := fun ad e => own_lt how _ (by rw [hfv, e]; rfl)
  rw [hfv] at hcr
  have hctx : CoCtx W6 fb cb cr wp f (fineL st) A c (goneB st) (looseB st) := ⟨q1, q2, blk_below hcr hb6, Kd.C_below hfi hb6, hfc, by omega, hf⟩
  have hcrl := blk_lt hcr
  have hs1 := HB1.out.1.size
  have hs2 := hb2.size
  have hs3 := hb23.size
  have hlt6 := blk_lt hgo6
  have hlt2 := blk_lt hgb
  rw [World.size_alloc] at q3 q4
  have hM6 : ∀ j, j = go → j < W6.heap.size ∧ ¬ CoRd fb cb cr A j := by
    rintro j rfl
    refine ⟨hlt6, ?_⟩
    rintro (e | e | e | ⟨a, ea, e⟩)
    · omega
    · omega
    · omega
    · have := hfb a ea; omega
  have HH := Aside0.mk (And.intro hctx (And.intro hM6 (And.intro hob6 (And.intro hgo6 (And.intro hbb6 (And.intro hcare6 hb6))))))
  have HN := Aside0.mk (And.intro hlen (And.intro (show w.heap.size ≤ go by omega) (show go ≠ ob by omega)))
  have hne2 : Aside0 (go ≠ bb ∧ (∀ i, i < w.heap.size → i ≠ go)) := ⟨by
    constructor
    · have := HB1.out.2.1; have := blk_lt this; omega
    · intro i hi; omega⟩
  clear hgo hgb hlen hb2 hb3 q1 q2 q3 q4 hob hbA hb23 hb6 hob6 hgo6 hbb6 hcare6 h0 hcr how hweb hfl hfv hfc hfi hfb hctx hcrl hs1 hs2 hs3 hlt6 hlt2 hM6 H2 H3
  go_wp2
  refine range_law (gf := 122) (lb := #[.pointer (some ⟨fb, 0, none⟩), .pointer (some ⟨cb, 0, none⟩)]) rfl (callFunc_enter Try.func122 (by kernel_rfl) rfl) (choices1_iter fb cb cr wp f (fineL st) A c (goneB st) (looseB st) W6 HH.out.1) (fun j => j = go) HH.out.2.1
      (fun k' W' => W'.heap[go]? = some (.cells (intsCs (worstOf nn ls sn hi st ((choicesL f (fineL st)).take k'))) 3 (0, 0)) ∧ Kp W6 W' (fun j => j = go) ∧ (worstOf nn ls sn hi st ((choicesL f (fineL st)).take k')).length = nn) (fun cc k' W' => False) ?hI ?hIx ?h0
      (fun vv => { tmps := #[.pointer (some ⟨cr, 0, none⟩), .int .i64 (f : Int), .pointer (some ⟨bb, 0, none⟩), undef, .slice none 0 0, .pointer (some ⟨ob, 0, none⟩), vv, undef, undef, .pointer (some ⟨cr, 0, none⟩), .slice (some ⟨go, 0, none⟩) nn nn, .pointer (some ⟨cr, 0, none⟩), .int .i64 (f : Int), .func (.func 122) #[] #[.pointer (some ⟨fb, 0, none⟩), .pointer (some ⟨cb, 0, none⟩)], vv, undef, undef, undef, undef, undef, undef, undef, undef, undef, undef, undef, undef, undef, undef, undef, undef, undef, undef, undef, undef], defers := [] }) ?assign ?body ?done ?stop
  case hI => exact fun k' Wa Wb h hb => ⟨(hb.block go (HH.out.2.1 go rfl).1).trans h.1, kp_below h.2.1 hb, h.2.2⟩
  case hIx => exact fun cc k' Wa Wb h hb hck => h
  case h0 => exact ⟨HH.out.2.2.2.1, Kp.refl _ _, HN.out.1⟩
  case assign =>
    intro lr vv Wa K hK
    gi_wp2
    exact hK
  case stop => rintro cc k' Wa hszW hk' h hd; exact h.elim
  case done =>
    rintro Wa hszW ⟨hg, hk, hl⟩ hd
    rw [List.take_length] at hg hl
    have hbw : Below w.heap.size w Wa := HH.out.2.2.2.2.2.2.trans (hk.below HH.out.2.2.2.2.2.2.size (fun i e => by rw [e]; exact HN.out.2.1))
    have e0 : Wa.cell? ⟨ob, 0, none⟩ = some (.slice (some ⟨go, 0, none⟩) nn nn) := blk_cell (hk.blk HH.out.2.2.1 (fun e => HN.out.2.2 e.symm)) 0
    have HD := Aside0.mk (And.intro hg (And.intro hl (And.intro hd hbw)))
    clear hszW hg hk hl hd hbw
    go_wp2
    obtain ⟨hg, hl, hd, hbw⟩ := HD.out
    have hs6 := HH.out.2.2.2.2.2.2.size
    have hgl := (HH.out.2.1 go rfl).1
    refine leaves_marks (B := W6.heap.size) [W6.heap.size] Wa (by simp) ?_ (fun W' hb hck hs' => ⟨_, results_tmp rfl _ _ _, ⟨go, rfl, HN.out.2.1, (hb.block go hgl).trans hg, hl, hbw.trans (hb.mono hs6)⟩⟩)
    intro D hD
    rw [List.mem_singleton.1 hD]
    exact ⟨hd, Nat.le_refl _⟩
  case body =>
    rintro lr k' x Ax cx Wa ⟨hg, hk, hl⟩ hx hA hcx hszW
    have hbw : Below w.heap.size w Wa := HH.out.2.2.2.2.2.2.trans (hk.below HH.out.2.2.2.2.2.2.size (fun i e => by rw [e]; exact HN.out.2.1))
    have e0 : Wa.cell? ⟨bb, 0, none⟩ = some (.pointer (some ⟨cr, 0, none⟩)) := blk_cell (hk.blk HH.out.2.2.2.2.1 (fun e => hne2.out.1 e.symm)) 0
    have hob : Wa.heap[ob]? = some (.cells #[.slice (some ⟨go, 0, none⟩) nn nn] 33 (0, 0)) := hk.blk HH.out.2.2.1 (fun e => HN.out.2.2 e.symm)
    have hxm : x ∈ choicesL f (fineL st) := by
      obtain ⟨h1, h2⟩ := List.getElem?_eq_some_iff.1 hx
      rw [← h2]; exact List.getElem_mem h1
    have hcal := without_list cr B nn uu sv0 sn lo hi ls st Ax cx x Wa (HW.out.below hbw) HO.out hA hcx (choices_mem f st x hst hxm)
    have HD := Aside0.mk (And.intro hg (And.intro hk (And.intro hl (And.intro hx (And.intro hob hszW)))))
    have HCAL := Aside0.mk hcal
    clear hg hk hl hx hA hcx hszW hob hxm hcal hbw
    gi_wp2
    refine ⟨trivial, rfl, CallsIn.inRound lr (callsIn_wide.2 (HCAL.out.mono ?_))⟩
    rintro e Wb ⟨gt, rfl, hgt, hgb, hlen, hbb⟩
    have HT := Aside0.mk (And.intro hgt (And.intro hgb (And.intro hlen hbb)))
    obtain ⟨O, hO⟩ : ∃ O, O = worstOf nn ls sn hi st ((choicesL f (fineL st)).take k') := ⟨_, rfl⟩
    obtain ⟨T, hT⟩ : ∃ T, T = hiL nn ls sn hi st x := ⟨_, rfl⟩
    have HOT := Aside0.mk (And.intro hO hT)
    rw [← hT] at hgb hlen
    have hOl : O.length = nn := by rw [hO]; exact HD.out.2.2.1
    have hgo0 : Wb.heap[go]? = some (.cells (intsCs (mixL O T 0)) 3 (0, 0)) := by
      refine blk_below ?_ hbb
      rw [hO]; exact HD.out.1
    have hne3 : gt ≠ go := by
      have := blk_lt HD.out.1
      omega
    have hob3 := blk_below HD.out.2.2.2.2.1 hbb
    have HL := Aside0.mk (And.intro hOl (And.intro hlen (And.intro hgb (And.intro hob3 (And.intro hbb hne3)))))
    have HI0 : Aside0 (Wb.heap[go]? = some (.cells (intsCs (mixL O T 0)) 3 (0, 0)) ∧ Kp Wb Wb (fun i => i = go)) := ⟨hgo0, Kp.refl _ _⟩
    have hn64 : nn ≤ 64 := by have := HO.out.net.n2; omega
    have hmx : Try.prog.follows .mixedOrders = true := by kernel_rfl
    clear hgt hgb hlen hbb e0 hO hT hOl hgo0 hne3 hob3
    gi_wp2
    gi_loopw [19] (fun v wr => ∃ j : Nat, v = .int .i64 j ∧ j ≤ nn ∧ Aside0 (wr.heap[go]? = some (.cells (intsCs (mixL O T j)) 3 (0, 0)) ∧ Kp Wb wr (fun i => i = go))) (fun v _ => nn - (intOf v).toNat)
    case atStart => exact ⟨0, rfl, Nat.zero_le _, HI0⟩
    case round =>
      obtain ⟨j, rfl, hj, HI⟩ := hrel
      clear HI0
      by_cases hgo : j < nn
      · have hwj : IntKind.i64.wrap ((j : Int) + 1) = (j : Int) + 1 := by rw [i64_w]; unfold wrap64; omega
        have hjO : j < O.length := by rw [HL.out.1]; exact hgo
        have hjT : j < T.length := by rw [HL.out.2.1]; exact hgo
        obtain ⟨ov, hov⟩ : ∃ ov, ov = O[j] := ⟨_, rfl⟩
        obtain ⟨tv, htv⟩ : ∃ tv, tv = T[j] := ⟨_, rfl⟩
        have d0 : wr.cell? ⟨gt, j, none⟩ = some (.int .i64 tv) := by
          rw [blk_cell (HI.out.2.blk HL.out.2.2.1 HL.out.2.2.2.2.2) j, htv]
          simp [intsCs, hjT]
        have d1 : wr.cell? ⟨ob, 0, none⟩ = some (.slice (some ⟨go, 0, none⟩) nn nn) := blk_cell (HI.out.2.blk HL.out.2.2.2.1 (fun e => HN.out.2.2 e.symm)) 0
        have d2 : wr.cell? ⟨go, j, none⟩ = some (.int .i64 ov) := by
          rw [blk_cell HI.out.1 j, hov]
          have := mixL_get HL.out.1 HL.out.2.1 hgo
          simp [intsCs, this]
        have f2 : wr.frozen? ⟨go, j, none⟩ = false := blk_frozen HI.out.1 j
        have HOV := Aside0.mk (And.intro hov htv)
        have hdg : decide ((j : Int) < (nn : Int)) = true := by simp; exact hgo
        clear hov htv
        gi_wp2
        have e2 : wr.drew.cell? ⟨go, j, none⟩ = some (.int .i64 ov) := d2
        have ef : wr.drew.frozen? ⟨go, j, none⟩ = false := f2
        refine region_round lr (S := fun W => W.cell? ⟨ob, 0, none⟩ = some (.slice (some ⟨go, 0, none⟩) nn nn)) hmx (by kernel_rfl) (fun ⟨_, _, h⟩ => h) d1 (fun hS => ?_)
        refine wpAnyH_take (i := 0) (v := .slice (some ⟨go, 0, none⟩) nn nn) rfl (by kernel_rfl) (by kernel_rfl) (by kernel_rfl) (fun _ _ _ h => h) (Or.inl ⟨by rfl, ?_⟩) hS ?_
        · intro Wx hSx
          clear d0 d1 d2 f2 hS e2
          go_simp
        try simp only [Act.put, List.setIfInBounds_toArray, List.set_cons_zero, List.set_cons_succ]
        refine wpAnyH_take (i := 1) (v := .int .i64 (j : Int)) rfl (by kernel_rfl) (by kernel_rfl) (by kernel_rfl) (fun _ _ _ h => h) (Or.inl ⟨by rfl, ?_⟩) hS ?_
        · intro Wx hSx
          clear d0 d1 d2 f2 hS e2
          go_simp
        try simp only [Act.put, List.setIfInBounds_toArray, List.set_cons_zero, List.set_cons_succ]
        refine wpAnyH_take (i := 2) (v := .slice (some ⟨go, 0, none⟩) nn nn) rfl (by kernel_rfl) (by kernel_rfl) (by kernel_rfl) (fun _ _ _ h => h) (Or.inl ⟨by rfl, ?_⟩) hS ?_
        · intro Wx hSx
          clear d0 d1 d2 f2 hS e2
          go_simp
        try simp only [Act.put, List.setIfInBounds_toArray, List.set_cons_zero, List.set_cons_succ]
        refine wpAnyH_take (i := 3) (v := .int .i64 (j : Int)) rfl (by kernel_rfl) (by kernel_rfl) (by kernel_rfl) (fun _ _ _ h => h) (Or.inl ⟨by rfl, ?_⟩) hS ?_
        · intro Wx hSx
          clear d0 d1 d2 f2 hS e2
          go_simp
        try simp only [Act.put, List.setIfInBounds_toArray, List.set_cons_zero, List.set_cons_succ]
        refine wpAnyH_take (i := 4) (v := .pointer (some ⟨go, j, none⟩)) rfl (by kernel_rfl) (by kernel_rfl) (by kernel_rfl) (fun _ _ _ h => h) (Or.inl ⟨by rfl, ?_⟩) hS ?_
        · intro Wx hSx
          clear d0 d1 d2 f2 hS e2
          go_simp
        try simp only [Act.put, List.setIfInBounds_toArray, List.set_cons_zero, List.set_cons_succ]
        refine wpAnyH_take (i := 6) (v := .int .i64 tv) rfl (by kernel_rfl) (by kernel_rfl) (by kernel_rfl) (fun _ _ _ h => h) (Or.inl ⟨by rfl, ?_⟩) hS ?_
        · intro Wx hSx
          clear d0 d1 d2 f2 hS e2
          go_simp
        try simp only [Act.put, List.setIfInBounds_toArray, List.set_cons_zero, List.set_cons_succ]
        refine wpAnyH_ready (rs := [5]) (by kernel_rfl) (by simp) ?_
        refine AllReadyH.cons rfl (fun K hK => ?_) AllReadyH.nil
        go_simp
        refine hK.out _ _ hS (fun hHeld => ?_)
        clear hK K
        try simp only [Act.put, List.setIfInBounds_toArray, List.set_cons_zero, List.set_cons_succ]
        refine wpAnyH_take (i := 7) (v := .int .i64 (max ov tv)) rfl (by kernel_rfl) (by kernel_rfl) (by kernel_rfl) (fun _ _ _ h => h) (Or.inl ⟨by rfl, ?_⟩) hS ?_
        · intro Wx hSx
          clear d0 d1 d2 f2 hS e2
          go_simp
          omega
        try simp only [Act.put, List.setIfInBounds_toArray, List.set_cons_zero, List.set_cons_succ]
        refine wpAnyH_take (i := 8) (v := .pointer (some ⟨go, j, none⟩)) rfl (by kernel_rfl) (by kernel_rfl) (by kernel_rfl) (fun _ _ _ h => h) (Or.inl ⟨by rfl, ?_⟩) hS ?_
        · intro Wx hSx
          clear d0 d1 d2 f2 hS e2
          go_simp
        try simp only [Act.put, List.setIfInBounds_toArray, List.set_cons_zero, List.set_cons_succ]
        refine wpAnyH_ready (rs := [9]) (by kernel_rfl) (by simp) ?_
        refine AllReadyH.cons rfl (fun K hK => ?_) AllReadyH.nil
        go_simp
        refine hK.out _ _ ?_ (fun hHeld => ?_)
        clear hK K
        try simp only [Act.put, List.setIfInBounds_toArray, List.set_cons_zero, List.set_cons_succ]
        · exact blk_cell (blk_drew (blk_far (HI.out.2.blk HL.out.2.2.2.1 (fun e => HN.out.2.2 e.symm)) (fun e => HN.out.2.2 e.symm) _)) 0
        have HI5 : Aside0 ((wr.setCell ⟨go, j, none⟩ (.int .i64 (max ov tv))).drew.heap[go]? = some (.cells (intsCs (mixL O T (j + 1))) 3 (0, 0)) ∧ Kp Wb (wr.setCell ⟨go, j, none⟩ (.int .i64 (max ov tv))).drew (fun i => i = go)) := by
          refine ⟨blk_drew ?_, (HI.out.2.trans (Kp.setCell _ _ _ _) (fun _ h => h) (fun _ _ h => h)).trans (Kp.drew _ (fun _ => False)) (fun _ h => h) (fun _ _ h => h.elim)⟩
          have := blk_set HI.out.1 j (.int .i64 (max ov tv))
          rw [this, HOV.out.1, HOV.out.2, ← mixL_set HL.out.1 HL.out.2.1 hgo]
          simp [intsCs, List.map_set]
        refine wpAnyH_done (by kernel_rfl) ?_ _
        clear d0 d1 d2 f2 hS e2 ef hHeld
        gi_wp2
        go_roundw
        case rel => exact ⟨j + 1, by go_num, by omega, HI5⟩
        case measure => simp [intOf]; omega
      · obtain rfl : j = nn := by omega
        clear hj hgo
        gi_wp2
        have hmx2 := HI.out.1
        rw [mixL_end HL.out.1 HL.out.2.1] at hmx2
        have hsn : (choicesL f (fineL st)).take (k' + 1) = (choicesL f (fineL st)).take k' ++ [x] := by
          rw [List.take_add_one, HD.out.2.2.2.1]; rfl
        have hkk : Kp Wa wr (fun i => i = go) := (Kp.of_below HL.out.2.2.2.2.1 (fun _ => False)).trans HI.out.2 (fun _ h => h.elim) (fun _ _ h => h)
        refine ⟨⟨?_, HD.out.2.1.trans hkk (fun _ h => h) (fun _ _ h => h), ?_⟩, hkk⟩
        · rw [hsn, worstOf_snoc, ← HOT.out.1, ← HOT.out.2]; exact hmx2
        · rw [hsn, worstOf_snoc, ← HOT.out.1, ← HOT.out.2]
          unfold maxL
          rw [List.length_zipWith, HL.out.1, HL.out.2.1]
          exact Nat.min_self _
end Go.Proofs.Ytgmglpnoppcnkaa
end
section
namespace Go.Proofs.Ytgmglpnoppcnkaa
open Go.RowKit Go.Proofs.YtgmglpnoppcnkaaW.PrintWords Go.Proofs.YtgmglpnoppcnkaaW.PrintLast Go.Proofs.YtgmglpnoppcnkaaW.PrintMore
set_option linter.unusedVariables false
set_option linter.unusedSimpArgs false
set_option maxRecDepth 100000
/-- Bounds put together. -/
def zipS (a b : List Int) : List PB.S41 := List.zipWith (fun x y => (⟨x, y⟩ : PB.S41)) a b
theorem spans_loop (a b : List Int) (n : Nat) (ha : a.length = n) (hb : b.length = n) (hn : n ≤ 1000) : ∀ (d i : Nat), i + d = n → ∃ k, PB.spread_spans.l0 k a b ((zipS a b).take i) (n : Int) (i : Int) = some (zipS a b) := by
  have hz : (zipS a b).length = n := by simp [zipS, ha, hb]
  intro d
  induction d with
  | zero =>
    intro i hi
    refine ⟨1, ?_⟩
    rw [PB.spread_spans.l0, if_neg (by omega), List.take_of_length_le (by omega)]
  | succ d ih =>
    intro i hi
    obtain ⟨k, hk⟩ := ih (i + 1) (by omega)
    refine ⟨k + 1, ?_⟩
    have hia : i < a.length := by omega
    have hib : i < b.length := by omega
    have hiz : i < (zipS a b).length := by omega
    have e : wrap64 ((i : Int) + 1) = ((i + 1 : Nat) : Int) := by rw [wrap_succ (by omega) (by omega)]; omega
    have et : (zipS a b).take i ++ [(⟨rd a (i : Int), rd b (i : Int)⟩ : PB.S41)] = (zipS a b).take (i + 1) := by
      rw [List.take_add_one, List.getElem?_eq_getElem hiz]
      simp [zipS, rd, List.getElem?_eq_getElem hia, List.getElem?_eq_getElem hib]
    rw [PB.spread_spans.l0, if_pos (by omega), if_pos (by omega), if_pos (by omega), if_pos (by omega), if_pos (by rw [List.length_take]; omega), et, e]
    exact hk
theorem spans_eq (a b : List Int) (n : Nat) (ha : a.length = n) (hb : b.length = n) (hn : n ≤ 1000) : ∃ k, PB.spread_spans.f k a b = some (zipS a b) := by
  obtain ⟨k, hk⟩ := spans_loop a b n ha hb hn n 0 (by omega)
  refine ⟨k, ?_⟩
  unfold PB.spread_spans.f
  rw [ha]
  simpa using hk
theorem row_ints {w : World} {g : Nat} {o : List Int} (h : w.heap[g]? = some (.cells (intsCs o) 3 (0, 0))) (hn : o.length ≤ 1000) : IntsAt w (some ⟨g, 0, none⟩) o := by
  refine ⟨rfl, by omega, fun _ => ⟨_, rfl, fun j p hj => ⟨[.int .i64 p], rfl, rfl, fun i u hu => ?_⟩⟩⟩
  have hi0 : i = 0 := by
    have := (List.getElem?_eq_some_iff.1 hu).1
    simp at this; omega
  subst hi0
  have e2 : (Kd.int .i64).sz = 1 := rfl
  have hu' : Value.int .i64 p = u := by simpa using hu
  rw [e2, Nat.mul_one, Nat.add_zero, Addr.add_mid, Nat.zero_add, blk_cell h j]
  simp [intsCs, hj, ← hu']
/-- The lower bounds. -/
noncomputable def loL (nn : Nat) (ls : List Lk) (sn lo : Int) (s : List Bool) : List Int := leastL ls (ueLo s) sn lo nn
theorem first_list (wp B nn : Nat) (uu : Int) (sv0 : Value) (sn lo hi : Int) (ls : List Lk) (s : List Bool) (w : World) (hw : WebAt w B wp nn uu sv0 sn lo hi ls) (hs : s.length = 20) (hO : StOk nn uu ls sn lo hi) :
    Calls Try.prog 56 #[.pointer (some ⟨wp, 0, none⟩), .agg (setCs s).toArray] w (ListPost w nn (loL nn ls sn lo s)) :=
  (first_calls wp B nn uu sv0 sn lo hi ls s w hw hs hO).mono fun e w' ⟨g, o, he, hg, hb, hl, hB⟩ => by
    have := leastL_eq hl
    exact ⟨g, he, hg, by rw [loL, this]; exact hb, by rw [loL, this]; exact hl.len, hB⟩
/-- What Worst returns of a network and states without an error. -/
noncomputable def worstS (nn : Nat) (ls : List Lk) (sn lo hi : Int) (st : List Int) (f : Nat) : List PB.S41 := zipS (loL nn ls sn lo (goneB st)) (worstOf nn ls sn hi st (choicesL f (fineL st)))
theorem spans_list (a b : List Int) (n : Nat) (A0 A1 : Option Addr) (c0 c1 : Nat) (w : World) (ha : a.length = n) (hb : b.length = n) (hn : n ≤ 1000) (h0 : IntsAt w A0 a) (h1 : IntsAt w A1 b) (hc0 : n ≤ c0) (hc1 : n ≤ c1) :
    Calls Try.prog 55 #[.slice A0 n c0, .slice A1 n c1] w fun e w' => ∃ v, e = .returned v ∧ Kd.R PB.k41 41 w' w.heap.size (fun _ => True) v (zipS a b) ∧ Below w.heap.size w w' := by
  obtain ⟨k, hk⟩ := spans_eq a b n ha hb hn
  have := PB.spread_spans.calls k A0 c0 a A1 c1 b (zipS a b) w h0 (by omega) h1 (by omega) hk
  rw [ha, hb] at this
  exact this
set_option maxHeartbeats 4000000 in
theorem Worst_ok (n : Nat) (uu : Int) (A : Option Addr) (c : Nat) (ls : List Lk) (sn lo hi : Int) (A2 : Option Addr) (c2 : Nat) (st : List Int) (f : Nat) (w : World)
    (hr : Kd.C PB.k88 w A ls.length ls) (hc : ls.length ≤ c) (hr2 : Kd.C (Kd.int .i64) w A2 st.length st) (hc2 : st.length ≤ c2) (h : validE n uu ls sn lo hi st f = 0) :
    Calls Try.prog 16 #[.agg #[.int .i64 n, .int .i64 uu, .slice A ls.length c], .agg #[.int .i64 sn, .int .i64 lo, .int .i64 hi], .slice A2 st.length c2, .int .i64 f] w fun e w' => ∃ v, e = .returned (.tuple #[v, .int .i64 0]) ∧ Kd.R PB.k41 41 w' w.heap.size (fun _ => True) v (worstS n ls sn lo hi st f) ∧ Below w.heap.size w w' := by
  have HR := Aside0.mk (And.intro hr (And.intro hc (And.intro hr2 hc2)))
  have HV := Aside0.mk h
  obtain ⟨n', e, hO, hst, -, -, hf3⟩ := validE_ok h
  have : n = n' := by omega
  subst this
  have hst20 : st.length ≤ 20 := by have := hO.net.u2; omega
  have hn64 : n ≤ 64 := by have := hO.net.n2; omega
  have hf : f ≤ 100 := by omega
  have HO := Aside0.mk hO
  clear hr hc hr2 hc2 h e hO hst hf3
  go_enter Try.func16, Try.ntmps16
  go_wp2_with ((with_reducible refine gate_dst (N := 4) rfl ?_); refine hold ?_)
  refine box_event rfl (N := 4) rfl (cs := #[.int .i64 n, .int .i64 uu, .slice A ls.length c]) (t := 32) (by go_simp) ?_
  intro bn hbn w1 hb1 hB1
  have HB1 := Aside0.mk (And.intro hB1 hb1)
  clear hbn hB1 hb1
  go_wp2_with ((with_reducible refine gate_dst (N := 5) rfl ?_); refine hold ?_)
  refine box_event rfl (N := 5) rfl (cs := #[.int .i64 sn, .int .i64 lo, .int .i64 hi]) (t := 43) (by go_simp) ?_
  intro bs hbs w2 hb2 hB2
  have HB2 := Aside0.mk (below_step HB1.out.1 hB2)
  have hx1 := blk_below HB1.out.2 hB2
  have C0 : w2.cell? ⟨bn, 0, none⟩ = some (.int .i64 n) := blk_cell hx1 0
  have C1 : w2.cell? ⟨bn, 1, none⟩ = some (.int .i64 uu) := blk_cell hx1 1
  have C2 : w2.cell? ⟨bn, 2, none⟩ = some (.slice A ls.length c) := blk_cell hx1 2
  have C3 : w2.cell? ⟨bs, 0, none⟩ = some (.int .i64 sn) := blk_cell hb2 0
  have C4 : w2.cell? ⟨bs, 1, none⟩ = some (.int .i64 lo) := blk_cell hb2 1
  have C5 : w2.cell? ⟨bs, 2, none⟩ = some (.int .i64 hi) := blk_cell hb2 2
  clear hx1 hb2 hB2 hbs
  go_wp2_with (first | (go_at_call 54; refine ((cared_ok n uu A c ls sn lo hi A2 c2 st f _ (Kd.C_below HR.out.1 HB2.out) HR.out.2.1 (Kd.C_below HR.out.2.2.1 HB2.out) HR.out.2.2.2 HV.out).mono ?_); rintro e w4 ⟨cr, rfl, hb, hca⟩; have HB4 := Aside0.mk (below_step HB2.out hb); have HCA := Aside0.mk hca; clear hb hca C0 C1 C2 C3 C4 C5))
  have HCX : Aside0 (∀ W, Below w4.heap.size w4 W → CareAt W w2.heap.size cr n uu (.slice A ls.length c) sn lo hi ls st) := ⟨fun W h => HCA.out.below h⟩
  obtain ⟨wp, fv, h0, hcr, how, hweb⟩ := HCA.out
  have c0 : ∀ W, Below w4.heap.size w4 W → W.cell? ⟨cr, 0, none⟩ = some (.pointer (some ⟨wp, 0, none⟩)) := fun W h => blk_cell (blk_below hcr h) 0
  have HWX : Aside0 (∀ W, Below w4.heap.size w4 W → WebAt W w2.heap.size wp n uu (.slice A ls.length c) sn lo hi ls) := ⟨fun W h => hweb.below h⟩
  have HRS := Aside0.mk (care_range2 hcr (goneB_len st))
  have hu144 := Try.underlying144
  have hi144 : (Try.prog.info? 144).map (·.size) = some (setCs (goneB st)).length := by rw [setCs_length, goneB_len]; exact info144
  clear h0 hcr how hweb HCA
  go_region_held3 (fun W => Below w4.heap.size w4 W ∧ W.rangeAt cr 2 (setCs (goneB st))) (first | exact keepC0 (fun W h => range_below HRS.out h) | exact keepC (fun W h => range_below HRS.out h) (by assumption) (by assumption)) (first
    | (go_at_call 56; refine (first_list wp w2.heap.size n uu (.slice A ls.length c) sn lo hi ls (goneB st) _ (HWX.out _ (And.left (by assumption))) (goneB_len st) HO.out).mono ?_; rintro e wf ⟨g1, rfl, hg1, hgb1, hl1, hbf⟩; have HF := Aside0.mk (And.intro hgb1 (And.intro hl1 hbf)); clear hg1 hgb1 hl1)
    | (go_at_call 57; refine (worst_calls cr w2.heap.size n uu (.slice A ls.length c) sn lo hi ls st f _ (HCX.out _ (And.left (by assumption))) HO.out hst20 hf).mono ?_; rintro e ww ⟨g2, rfl, hg2, hgb2, hl2, hbw⟩; have HG := Aside0.mk (And.intro hgb2 (And.intro hl2 hbw)); clear hg2 hgb2 hl2)
    | (go_at_call 55; refine (spans_list (loL n ls sn lo (goneB st)) (worstOf n ls sn hi st (choicesL f (fineL st))) n (some ⟨g1, 0, none⟩) (some ⟨g2, 0, none⟩) n n _ HF.out.2.1 HG.out.2.1 (by omega) (row_ints (by first | exact blk_below HF.out.1 HG.out.2.2 | exact HF.out.1) (by have := HF.out.2.1; omega)) (row_ints (by first | exact blk_below HG.out.1 HF.out.2.2 | exact HG.out.1) (by have := HG.out.2.1; omega)) (Nat.le_refl _) (Nat.le_refl _)).mono ?_; rintro e w8 ⟨v, rfl, hv, hb8⟩; have HV8 := Aside0.mk hv; clear hv))
  all_goals
    rename_i hH
    have HBX := Aside0.mk (below_step HB4.out hH.1)
    clear hH hbf hbw hb8 c0 hu144 hi144
    go_wp2
    go_ret2
    exact ⟨_, rfl, Kd.R_lower HV8.out (Nat.le_trans HB4.out.size (by first | exact Nat.le_trans HF.out.2.2.size HG.out.2.2.size | exact Nat.le_trans HG.out.2.2.size HF.out.2.2.size)), HBX.out⟩
end Go.Proofs.Ytgmglpnoppcnkaa
end
section
namespace Go.Proofs.Ytgmglpnoppcnkaa
open Go.RowKit
set_option linter.unusedVariables false
set_option linter.unusedSimpArgs false
section
variable {ls : List Lk} {ue : Lk → Option Int} {sn b : Int} {nn : Nat}
theorem least_from (E : EOk ls ue sn b nn) : ∀ (M : Nat) (o : List Int) (h : List Vis), DInv ls ue sn b nn o h → (nn - setd o) * (ls.length + 1) + h.length ≤ M → ∃ o', LeastAt ls ue sn b nn o' ∧ ∀ v : Int, 0 ≤ v → v < nn → oat o' v < NV → oat o' v ≤ 64000000000 := by
  intro M
  induction M with
  | zero =>
    intro o h D hM
    have h0 : h = [] := List.length_eq_zero_iff.1 (by omega)
    subst h0
    refine ⟨o, D.done E, fun v h0 h1 h2 => ?_⟩
    have := D.ob v h0 h1 h2
    have hs := setd_le o
    rw [D.len] at hs
    have := E.n64
    omega
  | succ M ih =>
    intro o h D hM
    by_cases h0 : h.length = 0
    · have h0 : h = [] := List.length_eq_zero_iff.1 h0
      subst h0
      refine ⟨o, D.done E, fun v h0 h1 h2 => ?_⟩
      have := D.ob v h0 h1 h2
      have hs := setd_le o
      rw [D.len] at hs
      have := E.n64
      omega
    · have h0 : 0 < h.length := by omega
      have htk := (take_all h D.ok h0).2.2
      by_cases hlt : (vat h 0).2 < oat o (vat h 0).1
      · obtain ⟨-, hs, hsn, D'⟩ := D.settle E h0 hlt
        refine ih _ _ D' ?_
        rw [hs]
        have h1 := pushAll_len ue (vat h 0).2 (grp ls (vat h 0).1) (takeRest h)
        have h2 := grp_len ls (vat h 0).1
        have e : nn - setd o = (nn - (setd o + 1)) + 1 := by omega
        rw [e, Nat.add_mul] at hM
        omega
      · exact ih _ _ (D.skip E h0 (by omega)) (by omega)
theorem least_exists (E : EOk ls ue sn b nn) : ∃ o, LeastAt ls ue sn b nn o ∧ ∀ v : Int, 0 ≤ v → v < nn → oat o v < NV → oat o v ≤ 64000000000 :=
  least_from E _ _ _ (DInv.init E) (Nat.le_refl _)
theorem oat_nat (o : List Int) (v : Nat) : o.getD v NV = oat o (v : Int) := by simp [oat]
theorem LeastAt.spec {o : List Int} (h : LeastAt ls ue sn b nn o) (v : Int) (h0 : 0 ≤ v) (h1 : v < nn) : (oat o v < NV ∧ Wk ls ue sn b v (oat o v) ∧ ∀ t, Wk ls ue sn b v t → oat o v ≤ t) ∨ (oat o v = NV ∧ ∀ t, ¬ Wk ls ue sn b v t) := by
  have := h.at_ v.toNat (by omega)
  rw [oat_nat, Int.toNat_of_nonneg h0] at this
  exact this
theorem Wk.ends (E : EOk ls ue sn b nn) {v t : Int} (h : Wk ls ue sn b v t) : (0 ≤ v ∧ v < nn) ∧ b ≤ t := by
  induction h with
  | start => exact ⟨E.sn, Int.le_refl _⟩
  | step hw hl e hd ih =>
    have := E.d _ hl _ hd
    exact ⟨(E.ends _ hl).2, by omega⟩
/-- The least time of a node that can be reached is small. -/
theorem Wk.small (E : EOk ls ue sn b nn) {v t : Int} (h : Wk ls ue sn b v t) : ∃ t', Wk ls ue sn b v t' ∧ t' ≤ 64000000000 ∧ t' ≤ t := by
  obtain ⟨o, ho, hb⟩ := least_exists E
  have he := (h.ends E).1
  rcases ho.spec v he.1 he.2 with ⟨h1, h2, h3⟩ | ⟨_, h2⟩
  · exact ⟨_, h2, hb v he.1 he.2 h1, h3 _ h⟩
  · exact absurd h (h2 _)
/-- A stable table of walks. -/
structure TabOk (ls : List Lk) (ue : Lk → Option Int) (sn b : Int) (nn : Nat) (o : List Int) : Prop where
  len : o.length = nn
  owalk : ∀ v : Int, 0 ≤ v → v < nn → oat o v = NV ∨ oat o v < NV ∧ Wk ls ue sn b v (oat o v)
  beg : oat o sn = b
theorem stable_least (E : EOk ls ue sn b nn) {o : List Int} (T : TabOk ls ue sn b nn o) (hst : ∀ l ∈ ls, ∀ d, ue l = some d → oat o l.f0 < NV → l.f1 ≠ sn → oat o l.f1 ≤ oat o l.f0 + d) : LeastAt ls ue sn b nn o := by
  have hle : ∀ v : Int, 0 ≤ v → v < nn → oat o v ≤ NV := fun v h0 h1 => by
    rcases T.owalk v h0 h1 with e | ⟨e, _⟩ <;> omega
  have key : ∀ v t, Wk ls ue sn b v t → oat o v ≤ t := by
    intro v t hw
    induction hw with
    | start => rw [T.beg]; exact Int.le_refl _
    | step hw hl e hd ih =>
      rename_i u t l d
      have hdb := E.d l hl d hd
      have he := E.ends l hl
      rw [← e] at ih
      by_cases hs : l.f1 = sn
      · rw [hs, T.beg]
        have := (hw.ends E).2
        omega
      · by_cases hf : oat o l.f0 < NV
        · have := hst l hl d hd hf hs
          omega
        · have := hle l.f1 he.2.1 he.2.2
          omega
  refine ⟨T.len, fun v hv => ?_⟩
  rw [oat_nat]
  rcases T.owalk v (by omega) (by omega) with e | ⟨e, hw⟩
  · right
    refine ⟨e, fun t ht => ?_⟩
    obtain ⟨t', h1, h2, _⟩ := ht.small E
    have := key _ _ h1
    rw [e] at this
    unfold NV at this
    omega
  · exact .inl ⟨e, hw, fun t ht => key _ _ ht⟩
/-- One link. -/
def relax1 (ue : Lk → Option Int) (sn : Int) (o : List Int) (l : Lk) : List Int :=
  match ue l with
  | none => o
  | some d => if l.f1 ≠ sn ∧ oat o l.f0 < NV ∧ oat o l.f0 + d < oat o l.f1 then o.set l.f1.toNat (oat o l.f0 + d) else o
theorem relax1_ok (E : EOk ls ue sn b nn) {o : List Int} (T : TabOk ls ue sn b nn o) {l : Lk} (hl : l ∈ ls) : TabOk ls ue sn b nn (relax1 ue sn o l) := by
  unfold relax1
  cases hd : ue l with
  | none => exact T
  | some d =>
    show TabOk ls ue sn b nn (if _ then _ else _)
    by_cases h : l.f1 ≠ sn ∧ oat o l.f0 < NV ∧ oat o l.f0 + d < oat o l.f1
    · rw [if_pos h]
      have he := E.ends l hl
      have hlen : l.f1 < o.length := by rw [T.len]; exact he.2.2
      have hset := fun u hu => oat_set o l.f1 u (oat o l.f0 + d) he.2.1 hlen hu
      have hw : Wk ls ue sn b l.f0 (oat o l.f0) := by
        rcases T.owalk l.f0 he.1.1 he.1.2 with e | ⟨_, e⟩
        · omega
        · exact e
      refine ⟨by rw [List.length_set]; exact T.len, fun v h0 h1 => ?_, ?_⟩
      · rw [hset v h0]
        by_cases hv : v = l.f1
        · rw [if_pos hv]
          right
          refine ⟨?_, by rw [hv]; exact .step hw hl rfl hd⟩
          rcases T.owalk l.f1 he.2.1 he.2.2 with e | ⟨e, _⟩ <;> omega
        · rw [if_neg hv]
          exact T.owalk v h0 h1
      · rw [hset sn E.sn.1, if_neg (fun e => h.1 e.symm)]
        exact T.beg
    · rw [if_neg h]
      exact T
def relaxL (ue : Lk → Option Int) (sn : Int) (ls : List Lk) (o : List Int) : List Int := ls.foldl (relax1 ue sn) o
theorem relaxL_ok (E : EOk ls ue sn b nn) : ∀ (ks : List Lk), (∀ l ∈ ks, l ∈ ls) → ∀ {o : List Int}, TabOk ls ue sn b nn o → TabOk ls ue sn b nn (relaxL ue sn ks o) := by
  intro ks
  induction ks with
  | nil => intro _ o T; exact T
  | cons l r ih => intro h o T; exact ih (fun x hx => h x (List.mem_cons_of_mem _ hx)) (relax1_ok E T (h l List.mem_cons_self))
def iterL (ue : Lk → Option Int) (sn : Int) (ls : List Lk) : Nat → List Int → List Int
  | 0, o => o
  | k + 1, o => iterL ue sn ls k (relaxL ue sn ls o)
theorem iterL_ok (E : EOk ls ue sn b nn) : ∀ (k : Nat) {o : List Int}, TabOk ls ue sn b nn o → TabOk ls ue sn b nn (iterL ue sn ls k o) := by
  intro k
  induction k with
  | zero => intro o T; exact T
  | succ k ih => intro o T; exact ih (relaxL_ok E ls (fun _ h => h) T)
def startL (sn b : Int) (nn : Nat) : List Int := (List.replicate nn NV).set sn.toNat b
theorem startL_ok (E : EOk ls ue sn b nn) : TabOk ls ue sn b nn (startL sn b nn) := by
  have hs := E.sn
  have hb := E.b
  have hset := fun u hu => oat_set (List.replicate nn NV) sn u b hs.1 (by rw [List.length_replicate]; exact hs.2) hu
  refine ⟨by simp [startL], fun v h0 h1 => ?_, ?_⟩
  · unfold startL
    rw [hset v h0]
    by_cases h : v = sn
    · rw [if_pos h]
      exact .inr ⟨by unfold NV; omega, by rw [h]; exact .start⟩
    · rw [if_neg h]
      exact .inl (oat_rep nn v h0 h1)
  · unfold startL
    rw [hset sn hs.1, if_pos rfl]
def stableB (ue : Lk → Option Int) (sn : Int) (ls : List Lk) (o : List Int) : Bool := ls.all (fun l => match ue l with | none => true | some d => decide (¬ oat o l.f0 < NV ∨ l.f1 = sn ∨ oat o l.f1 ≤ oat o l.f0 + d))
/-- A table that can be reckoned. -/
theorem leastL_iter (E : EOk ls ue sn b nn) (k : Nat) (h : stableB ue sn ls (iterL ue sn ls k (startL sn b nn)) = true) : leastL ls ue sn b nn = iterL ue sn ls k (startL sn b nn) := by
  refine leastL_eq (stable_least E (iterL_ok E k (startL_ok E)) fun l hl d hd hf hs => ?_)
  have := (List.all_eq_true.1 h) l hl
  rw [hd] at this
  have := of_decide_eq_true this
  rcases this with h1 | h1 | h1
  · exact absurd hf h1
  · exact absurd h1 hs
  · exact h1
end
end Go.Proofs.Ytgmglpnoppcnkaa
end
section
namespace Go.Proofs.Ytgmglpnoppcnkaa
open Go.RowKit Go.Proofs.YtgmglpnoppcnkaaW.PrintWords Go.Proofs.YtgmglpnoppcnkaaW.PrintLast Go.Proofs.YtgmglpnoppcnkaaW.PrintMore
set_option linter.unusedVariables false
set_option linter.unusedSimpArgs false
set_option maxRecDepth 100000
attribute [local go_sem] Oper.semAt_some
theorem cellsK_cell {W W' : World} (h : CellsK W W') (a : Addr) (v : Value) (hv : W.cell? a = some v) : W'.cell? a = some v := by
  have hv0 := hv
  unfold World.cell? at hv
  cases ho : W.heap[a.block]? with
  | none => rw [ho] at hv; simp at hv
  | some o =>
    cases o with
    | cells cs t fr => exact (World.cell?_of_block ((h _ _ _ _ ho).trans ho.symm)).trans hv0
    | _ => rw [ho] at hv; simp at hv
theorem results_blame (W : World) (tmps : Array Value) (b6 b7 : Nat) (v : Value) (b : Bool) (h6 : tmps[6]?.getD undef = .pointer (some ⟨b6, 0, none⟩)) (h7 : tmps[7]?.getD undef = .pointer (some ⟨b7, 0, none⟩))
    (c6 : W.cell? ⟨b6, 0, none⟩ = some v) (c7 : W.cell? ⟨b7, 0, none⟩ = some (.bool b)) (hv : ∃ A n c, v = .slice A n c) : (results Try.f96 tmps).run Try.prog W = .ok (.tuple #[v, .bool b]) W := by
  obtain ⟨A, n, c, rfl⟩ := hv
  have hu33 := Try.underlying33
  have hu4 := Try.underlying4
  simp [results, Try.results96, go_sem, h6, h7, c6, c7]
theorem ints_keep2 {W W' : World} {A : Option Addr} {x : List Int} (h : IntsAt W A x) (hk : ∀ a p, W.cell? a = some (.int .i64 p) → W'.cell? a = some (.int .i64 p)) : IntsAt W' A x := by
  obtain ⟨h1, h2, h3⟩ := h
  refine ⟨h1, h2, fun h0 => ?_⟩
  obtain ⟨ad, e, h4⟩ := h3 h0
  refine ⟨ad, e, fun j p hj => ?_⟩
  obtain ⟨c, c1, c2, c3⟩ := h4 j p hj
  have c2' : c = [.int .i64 p] := c2
  refine ⟨c, c1, c2, fun i u hu => ?_⟩
  have hu' : u = .int .i64 p := by
    rw [c2'] at hu
    have hi : i = 0 := by
      have := (List.getElem?_eq_some_iff.1 hu).1
      simp at this; omega
    subst hi
    simpa using hu.symm
  subst hu'
  exact hk _ _ (c3 i _ hu)
/-- A block of one cell that is no integer is none of those. -/
theorem int_far {W : World} {g t : Nat} {v : Value} (h : W.heap[g]? = some (.cells #[v] t (0, 0))) (hv : ∀ p, v ≠ .int .i64 p) (a : Addr) (p : Int) (ha : W.cell? a = some (.int .i64 p)) : a.block ≠ g := by
  intro e
  unfold World.cell? at ha
  rw [e, h] at ha
  simp only at ha
  split at ha
  · cases ha
  · have h0 : a.off < 1 := by
      have := (Array.getElem?_eq_some_iff.1 ha).1
      simpa using this
    have h00 : a.off = 0 := by omega
    rw [h00] at ha
    exact hv p (by simpa using ha)
theorem find_some {l : List (List Int)} {p : List Int → Bool} {k : Nat} {x : List Int} (hx : l[k]? = some x) (hp : p x = true) (hn : ∀ (i : Nat) (y : List Int), i < k → l[i]? = some y → p y = false) : l.find? p = some x := by
  induction l generalizing k with
  | nil => simp at hx
  | cons a r ih =>
    cases k with
    | zero =>
      have : a = x := by simpa using hx
      subst this
      rw [List.find?_cons_of_pos hp]
    | succ k =>
      have h0 := hn 0 a (by omega) rfl
      rw [List.find?_cons_of_neg (by rw [h0]; decide)]
      exact ih (k := k) (by simpa using hx) (fun i y hi hy => hn (i + 1) y (by omega) (by simpa using hy))
theorem find_none {l : List (List Int)} {p : List Int → Bool} (hn : ∀ (i : Nat) (y : List Int), i < l.length → l[i]? = some y → p y = false) : l.find? p = none := by
  rw [List.find?_eq_none]
  intro x hx hp
  obtain ⟨i, hi, e⟩ := List.getElem_of_mem hx
  have := hn i x hi (by rw [List.getElem?_eq_getElem hi, e])
  rw [this] at hp
  cases hp
/-- With some units failed the due is not met. -/
noncomputable def lateB (nn : Nat) (ls : List Lk) (sn hi : Int) (st : List Int) (d : Du) (us : List Int) : Bool := decide (d.f1 < (hiL nn ls sn hi st us).getD d.f0.toNat 0)
/-- What blame hands back. -/
def BlamePost (w : World) (o : Option (List Int)) (e : Ending) (w' : World) : Prop :=
  Below w.heap.size w w' ∧ ((o = none ∧ e = .returned (.tuple #[.slice none 0 0, .bool false])) ∨
   ∃ x A c, o = some x ∧ e = .returned (.tuple #[.slice A x.length c, .bool true]) ∧ IntsAt w' A x ∧ x.length ≤ c)
set_option maxHeartbeats 8000000 in
theorem blame_calls (cr B nn : Nat) (uu : Int) (sv0 : Value) (sn lo hi : Int) (ls : List Lk) (st : List Int) (f : Nat) (d : Du) (w : World)
    (hw : CareAt w B cr nn uu sv0 sn lo hi ls st) (hO : StOk nn uu ls sn lo hi) (hst : st.length ≤ 20) (hf : f ≤ 100) (hd0 : 0 ≤ d.f0) (hd1 : d.f0 < nn) :
    Calls Try.prog 96 #[.pointer (some ⟨cr, 0, none⟩), .int .i64 f, .agg #[.int .i64 d.f0, .int .i64 d.f1]] w (BlamePost w ((choicesL f (fineL st)).find? (lateB nn ls sn hi st d))) := by
  have HW := Aside0.mk hw
  have HO := Aside0.mk hO
  clear hw hO
  refine (callsIn_wide (n := 0)).1 (callsIn_of_wp_marks Try.func96 rfl trivial ?_ rfl)
  simp only [Try.ntmps96, List.size_toArray, List.length_cons, List.length_nil, Nat.reduceAdd, Nat.reduceSub, Array.replicate_succ, Array.replicate_zero, List.push_toArray, List.append_toArray, List.nil_append, List.cons_append]
  refine wpIn_wide.2 ?_
  go_wp2_with ((with_reducible refine gate_dst (N := 3) rfl ?_); refine hold ?_)
  refine box_event rfl (N := 3) rfl (cs := #[.pointer (some ⟨cr, 0, none⟩)]) (t := 137) (by go_simp) ?_
  intro bb hbb w1 hb1 hB1
  have HB1 := Aside0.mk (And.intro hB1 (And.intro hb1 (show w.heap.size ≤ bb by omega)))
  clear hbb hb1 hB1
  go_wp2_with ((with_reducible refine gate_dst (N := 5) rfl ?_); refine hold ?_)
  refine box_event rfl (N := 5) rfl (cs := #[.int .i64 d.f0, .int .i64 d.f1]) (t := 94) (by go_simp) ?_
  intro bd hbd w2 hb2 hB2
  have HB2 := Aside0.mk (And.intro (below_step HB1.out.1 hB2) (And.intro hb2 (And.intro (blk_below HB1.out.2.1 hB2) (show w.heap.size ≤ bd by have := HB1.out.1.size; omega))))
  clear hbd hb2 hB2
  go_wp2_with ((with_reducible refine gate_dst (N := 6) rfl ?_); refine hold ?_)
  refine Kd.event_run (v := .pointer (some ⟨w2.heap.size, 0, none⟩)) (w1 := w2.alloc (.cells #[.slice none 0 0] 33)) rfl (by go_simp) ?_
  obtain ⟨w3, hw3⟩ : ∃ w3, w3 = w2.alloc (.cells #[.slice none 0 0] 33) := ⟨_, rfl⟩
  obtain ⟨b6, hb6⟩ : ∃ b6, b6 = w2.heap.size := ⟨_, rfl⟩
  rw [← hw3, ← hb6]
  have hB3 : Below w2.heap.size w2 w3 := by rw [hw3]; exact below_alloc (Below.refl _ _) _
  have hx6 : w3.heap[b6]? = some (.cells #[.slice none 0 0] 33 (0, 0)) := by rw [hw3, hb6]; exact blk_new w2 _
  have HB3 := Aside0.mk (And.intro hB3 (And.intro hx6 (show w2.heap.size ≤ b6 by omega)))
  clear hw3 hb6 hB3 hx6
  go_wp2_with ((with_reducible refine gate_dst (N := 7) rfl ?_); refine hold ?_)
  refine Kd.event_run (v := .pointer (some ⟨w3.heap.size, 0, none⟩)) (w1 := w3.alloc (.cells #[.bool false] 4)) rfl (by go_simp) ?_
  obtain ⟨w4, hw4⟩ : ∃ w4, w4 = w3.alloc (.cells #[.bool false] 4) := ⟨_, rfl⟩
  obtain ⟨b7, hb7⟩ : ∃ b7, b7 = w3.heap.size := ⟨_, rfl⟩
  rw [← hw4, ← hb7]
  have hB4 : Below w3.heap.size w3 w4 := by rw [hw4]; exact below_alloc (Below.refl _ _) _
  have hx7 : w4.heap[b7]? = some (.cells #[.bool false] 4 (0, 0)) := by rw [hw4, hb7]; exact blk_new w3 _
  have HB4 := Aside0.mk (And.intro hB4 (And.intro hx7 (show w3.heap.size ≤ b7 by omega)))
  have c0 : w4.cell? ⟨bb, 0, none⟩ = some (.pointer (some ⟨cr, 0, none⟩)) := blk_cell (blk_below (blk_below HB2.out.2.2.1 HB3.out.1) hB4) 0
  clear hw4 hb7 hB4 hx7
  go_wp2_with (first | (go_at_call 107; refine (choices_calls cr f _).mono ?_; rintro e W6 ⟨fb, cb, rfl, hb3, q1, q2, q3⟩; have H3 := Aside0.mk (And.intro hb3 (And.intro q1 (And.intro q2 q3))); clear hb3 q1 q2 q3 c0))
  obtain ⟨hb3, q1, q2, q3, q4⟩ := H3.out
  have hb46 : Below w2.heap.size w2 W6 := below_step HB3.out.1 (below_step HB4.out.1 hb3)
  have hb6 : Below w.heap.size w W6 := below_step HB2.out.1 hb46
  have hx6 : W6.heap[b6]? = some (.cells #[.slice none 0 0] 33 (0, 0)) := blk_below HB3.out.2.1 (below_step HB4.out.1 hb3)
  have hx7 : W6.heap[b7]? = some (.cells #[.bool false] 4 (0, 0)) := blk_below HB4.out.2.1 hb3
  have hxb : W6.heap[bb]? = some (.cells #[.pointer (some ⟨cr, 0, none⟩)] 137 (0, 0)) := blk_below HB2.out.2.2.1 hb46
  have hxd : W6.heap[bd]? = some (.cells #[.int .i64 d.f0, .int .i64 d.f1] 94 (0, 0)) := blk_below HB2.out.2.1 hb46
  obtain ⟨wp, fv, h0, hcr, how, hweb⟩ := HW.out
  have hfl := fine_le st
  obtain ⟨A, c, hfv, hfc, hfi, -⟩ := own_ints_any how (by omega)
  rw [hfv] at hcr
  have hctx : CoCtx W6 fb cb cr wp f (fineL st) A c (goneB st) (looseB st) := ⟨q1, q2, blk_below hcr hb6, Kd.C_below hfi hb6, hfc, by omega, hf⟩
  have HH := Aside0.mk (And.intro hctx (And.intro hx6 (And.intro hx7 (And.intro hxb (And.intro hxd hb6)))))
  have HGE : Aside0 (w.heap.size ≤ b6 ∧ w.heap.size ≤ b7 ∧ b6 ≠ b7) := ⟨by
    have s1 := HB2.out.1.size
    have s2 := HB3.out.1.size
    have s3 := blk_lt HB3.out.2.1
    have s4 := HB3.out.2.2
    have s5 := HB4.out.2.2
    omega⟩
  clear hb3 q1 q2 q3 q4 hb46 hb6 hx6 hx7 hxb hxd h0 hcr how hweb hfl hfv hfc hfi hctx H3 HB3 HB4
  go_wp2
  refine range_law (gf := 122) (lb := #[.pointer (some ⟨fb, 0, none⟩), .pointer (some ⟨cb, 0, none⟩)]) rfl (callFunc_enter Try.func122 (by kernel_rfl) rfl) (choices1_iter fb cb cr wp f (fineL st) A c (goneB st) (looseB st) W6 HH.out.1) (fun j => False) (fun j h => h.elim)
      (fun k' W' => Kp W6 W' (fun j => False) ∧ ∀ (i : Nat) (x : List Int), i < k' → (choicesL f (fineL st))[i]? = some x → lateB nn ls sn hi st d x = false)
      (fun cc k' W' => cc = .ret ∧ Kp W6 W' (fun j => j = b6 ∨ j = b7) ∧ (∀ (i : Nat) (x : List Int), i < k' → (choicesL f (fineL st))[i]? = some x → lateB nn ls sn hi st d x = false) ∧
        ∃ x Ax cx, (choicesL f (fineL st))[k']? = some x ∧ lateB nn ls sn hi st d x = true ∧ W'.heap[b6]? = some (.cells #[.slice Ax x.length cx] 33 (0, 0)) ∧ W'.heap[b7]? = some (.cells #[.bool true] 4 (0, 0)) ∧ IntsAt W' Ax x ∧ x.length ≤ cx) ?hI ?hIx ?h0
      (fun vv => { tmps := #[.pointer (some ⟨cr, 0, none⟩), .int .i64 (f : Int), .agg #[.int .i64 d.f0, .int .i64 d.f1], .pointer (some ⟨bb, 0, none⟩), undef, .pointer (some ⟨bd, 0, none⟩), .pointer (some ⟨b6, 0, none⟩), .pointer (some ⟨b7, 0, none⟩), vv, .pointer (some ⟨cr, 0, none⟩), .int .i64 (f : Int), .func (.func 122) #[] #[.pointer (some ⟨fb, 0, none⟩), .pointer (some ⟨cb, 0, none⟩)], vv, undef, undef, undef, undef, undef, undef, undef, undef, undef, undef, undef], defers := [] }) ?assign ?body ?done ?stop
  case hI => exact fun k' Wa Wb h hb => ⟨kp_below h.1 hb, h.2⟩
  case hIx =>
    rintro cc k' Wa Wb ⟨h1, h2, h3, x, Ax, cx, h4, h5, h6, h7, h8, h9⟩ hb hck
    refine ⟨h1, kp_below h2 hb, h3, x, Ax, cx, h4, h5, hck _ _ _ _ h6, hck _ _ _ _ h7, ints_keep h8 (fun a v hv => cellsK_cell hck a v hv), h9⟩
  case h0 => exact ⟨Kp.refl _ _, fun i x h => by omega⟩
  case assign =>
    intro lr vv Wa K hK
    gi_wp2
    exact hK
  case done =>
    rintro Wa hszW ⟨hk, hno⟩ hd
    have c6 : Wa.cell? ⟨b6, 0, none⟩ = some (.slice none 0 0) := blk_cell (hk.blk HH.out.2.1 (fun h => h)) 0
    have f6 : Wa.frozen? ⟨b6, 0, none⟩ = false := blk_frozen (hk.blk HH.out.2.1 (fun h => h)) 0
    have c7 : Wa.cell? ⟨b7, 0, none⟩ = some (.bool false) := blk_cell (hk.blk HH.out.2.2.1 (fun h => h)) 0
    have f7 : Wa.frozen? ⟨b7, 0, none⟩ = false := blk_frozen (hk.blk HH.out.2.2.1 (fun h => h)) 0
    have g6 : (Wa.setCell ⟨b6, 0, none⟩ (.slice none 0 0)).heap[b6]? = some (.cells #[.slice none 0 0] 33 (0, 0)) := by simpa using blk_set (hk.blk HH.out.2.1 (fun h => h)) 0 (.slice none 0 0)
    have g7 : (Wa.setCell ⟨b6, 0, none⟩ (.slice none 0 0)).heap[b7]? = some (.cells #[.bool false] 4 (0, 0)) := blk_far (hk.blk HH.out.2.2.1 (fun h => h)) (fun e => HGE.out.2.2 e.symm) _
    have d7 : (Wa.setCell ⟨b6, 0, none⟩ (.slice none 0 0)).cell? ⟨b7, 0, none⟩ = some (.bool false) := blk_cell g7 0
    have e7 : (Wa.setCell ⟨b6, 0, none⟩ (.slice none 0 0)).frozen? ⟨b7, 0, none⟩ = false := blk_frozen g7 0
    have i6 : ((Wa.setCell ⟨b6, 0, none⟩ (.slice none 0 0)).setCell ⟨b7, 0, none⟩ (.bool false)).heap[b6]? = some (.cells #[.slice none 0 0] 33 (0, 0)) := blk_far g6 HGE.out.2.2 _
    have i7 : ((Wa.setCell ⟨b6, 0, none⟩ (.slice none 0 0)).setCell ⟨b7, 0, none⟩ (.bool false)).heap[b7]? = some (.cells #[.bool false] 4 (0, 0)) := by simpa using blk_set g7 0 (.bool false)
    have hkk : Kp W6 ((Wa.setCell ⟨b6, 0, none⟩ (.slice none 0 0)).setCell ⟨b7, 0, none⟩ (.bool false)) (fun j => j = b6 ∨ j = b7) := ((hk.trans (Kp.setCell _ _ _ _) (U := fun j => j = b6 ∨ j = b7) (fun _ h => h.elim) (fun _ _ h => .inl h)).trans (Kp.setCell _ _ _ _) (fun _ h => h) (fun _ _ h => .inr h))
    have hl6 := blk_lt HH.out.2.1
    have hl7 := blk_lt HH.out.2.2.1
    have hd2 : ((Wa.setCell ⟨b6, 0, none⟩ (.slice none 0 0)).setCell ⟨b7, 0, none⟩ (.bool false)).heap[W6.heap.size]? = some (.deferred (some [])) := by
      rw [Below.heap_setCell _ _ _ _ (show W6.heap.size ≠ b7 by omega), Below.heap_setCell _ _ _ _ (show W6.heap.size ≠ b6 by omega)]; exact hd
    have HD := Aside0.mk (And.intro hkk (And.intro hno (And.intro hd2 (And.intro i6 i7))))
    clear hk hno hd hszW g6 g7 i6 i7 hkk hl6 hl7 hd2
    go_wp2
    obtain ⟨hk, hno, hd, h6, h7⟩ := HD.out
    refine leaves_marks (B := W6.heap.size) [W6.heap.size] _ (by simp) ?_ (fun W' hb hck hs' => ⟨_, results_blame W' _ b6 b7 _ false rfl rfl (cellsK_cell hck _ _ (blk_cell h6 0)) (cellsK_cell hck _ _ (blk_cell h7 0)) ⟨_, _, _, rfl⟩, ?_⟩)
    · intro D hD
      rw [List.mem_singleton.1 hD]
      exact ⟨hd, Nat.le_refl _⟩
    · have hbw := HH.out.2.2.2.2.2.trans (hk.below HH.out.2.2.2.2.2.size (fun i e => by rcases e with rfl | rfl; exact HGE.out.1; exact HGE.out.2.1))
      exact ⟨hbw.trans (hb.mono HH.out.2.2.2.2.2.size), .inl ⟨find_none hno, rfl⟩⟩
  case stop =>
    rintro cc k' Wa hszW hk' ⟨rfl, hk, hno, x, Ax, cx, h4, h5, h6, h7, h8, h9⟩ hd
    have HD := Aside0.mk (And.intro hk (And.intro hno (And.intro hd (And.intro h4 (And.intro h5 (And.intro h6 (And.intro h7 (And.intro h8 h9))))))))
    clear hk hno hd h4 h5 h6 h7 h8 h9
    go_wp2
    obtain ⟨hk, hno, hd, h4, h5, h6, h7, h8, h9⟩ := HD.out
    refine leaves_marks (B := W6.heap.size) [W6.heap.size] Wa (by simp) ?_ (fun W' hb hck hs' => ⟨_, results_blame W' _ b6 b7 _ true rfl rfl (cellsK_cell hck _ _ (blk_cell h6 0)) (cellsK_cell hck _ _ (blk_cell h7 0)) ⟨_, _, _, rfl⟩, ?_⟩)
    · intro D hD
      rw [List.mem_singleton.1 hD]
      exact ⟨hd, Nat.le_refl _⟩
    · have hbw : Below w.heap.size w Wa := HH.out.2.2.2.2.2.trans (hk.below HH.out.2.2.2.2.2.size (fun i e => by rcases e with rfl | rfl; exact HGE.out.1; exact HGE.out.2.1))
      refine ⟨hbw.trans (hb.mono HH.out.2.2.2.2.2.size), .inr ⟨x, Ax, cx, find_some h4 h5 hno, rfl, ints_keep h8 (fun a v hv => cellsK_cell hck a v hv), h9⟩⟩
  case body =>
    rintro lr k' x Ax cx Wa ⟨hk, hno⟩ hx hA hcx hszW
    have hbw : Below w.heap.size w Wa := HH.out.2.2.2.2.2.trans (hk.below HH.out.2.2.2.2.2.size (fun i e => e.elim))
    have hxm : x ∈ choicesL f (fineL st) := by
      obtain ⟨h1, h2⟩ := List.getElem?_eq_some_iff.1 hx
      rw [← h2]; exact List.getElem_mem h1
    obtain ⟨dn, hdn⟩ : ∃ dn : Nat, d.f0 = (dn : Int) := ⟨d.f0.toNat, by omega⟩
    have hdl : dn < nn := by omega
    have hbbW := hk.blk HH.out.2.2.2.1 (fun h => h)
    have hbdW := hk.blk HH.out.2.2.2.2.1 (fun h => h)
    rw [hdn] at hbdW
    have C0 : ∀ W, Below Wa.heap.size Wa W → W.cell? ⟨bb, 0, none⟩ = some (.pointer (some ⟨cr, 0, none⟩)) := fun W h => blk_cell (blk_below hbbW h) 0
    have C1 : ∀ W, Below Wa.heap.size Wa W → W.cell? ⟨bd, 0, none⟩ = some (.int .i64 (dn : Int)) := fun W h => blk_cell (blk_below hbdW h) 0
    have C2 : ∀ W, Below Wa.heap.size Wa W → W.cell? ⟨bd, 1, none⟩ = some (.int .i64 d.f1) := fun W h => blk_cell (blk_below hbdW h) 1
    have HCAL : Aside0 (∀ W, Below Wa.heap.size Wa W → Calls Try.prog 100 #[.pointer (some ⟨cr, 0, none⟩), .slice Ax x.length cx] W (ListPost W nn (hiL nn ls sn hi st x))) := ⟨fun W h => without_list cr B nn uu sv0 sn lo hi ls st Ax cx x W (HW.out.below (below_step hbw h)) HO.out (Kd.C_below hA h) hcx (choices_mem f st x hst hxm)⟩
    have HD := Aside0.mk (And.intro hk (And.intro hno (And.intro hx (And.intro hA (And.intro hcx (And.intro hszW hdn))))))
    have hmx : Try.prog.follows .mixedOrders = true := by kernel_rfl
    have hdl2 : (dn : Int) < (nn : Int) := by omega
    clear hk hno hx hA hcx hszW hdn hxm hbbW hbdW hbw
    gi_wp2
    refine region_round lr (S := fun W => Below Wa.heap.size Wa W) hmx (by kernel_rfl) (fun ⟨_, _, h⟩ => h) (below_drew1 (Below.refl _ _)) (fun hS => ?_)
    refine wpAnyH_take (i := 0) (v := .pointer (some ⟨cr, 0, none⟩)) rfl (by kernel_rfl) (by kernel_rfl) (by kernel_rfl) (fun _ _ _ h => h) (Or.inl ⟨by rfl, ?_⟩) hS ?_
    · intro Wx hSx
      go_simp
    try simp only [Act.put, List.setIfInBounds_toArray, List.set_cons_zero, List.set_cons_succ]
    refine wpAnyH_take (i := 1) (v := .slice Ax x.length cx) rfl (by kernel_rfl) (by kernel_rfl) (by kernel_rfl) (fun _ _ _ h => h) (Or.inl ⟨by rfl, ?_⟩) hS ?_
    · intro Wx hSx
      go_simp
    try simp only [Act.put, List.setIfInBounds_toArray, List.set_cons_zero, List.set_cons_succ]
    refine wpAnyH_take (i := 3) (v := .pointer (some ⟨bd, 0, none⟩)) rfl (by kernel_rfl) (by kernel_rfl) (by kernel_rfl) (fun _ _ _ h => h) (Or.inl ⟨by rfl, ?_⟩) hS ?_
    · intro Wx hSx
      go_simp
    try simp only [Act.put, List.setIfInBounds_toArray, List.set_cons_zero, List.set_cons_succ]
    refine wpAnyH_take (i := 4) (v := .int .i64 (dn : Int)) rfl (by kernel_rfl) (by kernel_rfl) (by kernel_rfl) (fun _ _ _ h => h) (Or.inl ⟨by rfl, ?_⟩) hS ?_
    · intro Wx hSx
      go_simp
    try simp only [Act.put, List.setIfInBounds_toArray, List.set_cons_zero, List.set_cons_succ]
    refine wpAnyH_take (i := 7) (v := .pointer (some ⟨bd, 1, none⟩)) rfl (by kernel_rfl) (by kernel_rfl) (by kernel_rfl) (fun _ _ _ h => h) (Or.inl ⟨by rfl, ?_⟩) hS ?_
    · intro Wx hSx
      go_simp
    try simp only [Act.put, List.setIfInBounds_toArray, List.set_cons_zero, List.set_cons_succ]
    refine wpAnyH_take (i := 8) (v := .int .i64 d.f1) rfl (by kernel_rfl) (by kernel_rfl) (by kernel_rfl) (fun _ _ _ h => h) (Or.inl ⟨by rfl, ?_⟩) hS ?_
    · intro Wx hSx
      go_simp
    try simp only [Act.put, List.setIfInBounds_toArray, List.set_cons_zero, List.set_cons_succ]
    refine wpAnyH_ready (rs := [2]) (by kernel_rfl) (by simp) ?_
    refine AllReadyH.cons rfl (fun K hK => ?_) AllReadyH.nil
    go_simp
    refine (HCAL.out _ hS).mono ?_
    rintro e Wb ⟨gt, rfl, hgt, hgb, hlen, hbb⟩
    have hSb := below_step hS hbb
    refine hK.out _ _ hSb (fun hHeld => ?_)
    clear hK K
    try simp only [Act.put, List.setIfInBounds_toArray, List.set_cons_zero, List.set_cons_succ]
    obtain ⟨hv, hhv⟩ : ∃ hv, hv = (hiL nn ls sn hi st x).getD dn 0 := ⟨_, rfl⟩
    have hdh : dn < (hiL nn ls sn hi st x).length := by rw [hlen]; exact hdl
    have e0 : Wb.cell? ⟨gt, dn, none⟩ = some (.int .i64 hv) := by
      rw [blk_cell hgb dn, hhv]
      simp [intsCs, hdh]
    have HHV := Aside0.mk hhv
    have HBB := Aside0.mk (And.intro hSb hbb)
    clear hgb hgt hlen hhv hbb hdh
    refine wpAnyH_take (i := 5) (v := .pointer (some ⟨gt, dn, none⟩)) rfl (by kernel_rfl) (by kernel_rfl) (by kernel_rfl) (fun _ _ _ h => h) (Or.inl ⟨by rfl, ?_⟩) hSb ?_
    · intro Wx hSx
      go_simp
    try simp only [Act.put, List.setIfInBounds_toArray, List.set_cons_zero, List.set_cons_succ]
    refine wpAnyH_ready (rs := [6]) (by kernel_rfl) (by simp) ?_
    refine AllReadyH.cons rfl (fun K hK => ?_) AllReadyH.nil
    go_simp
    refine hK.out _ _ hSb (fun hHeld2 => ?_)
    clear hK K
    try simp only [Act.put, List.setIfInBounds_toArray, List.set_cons_zero, List.set_cons_succ]
    refine wpAnyH_take (i := 9) (v := .bool (decide (d.f1 < hv))) rfl (by kernel_rfl) (by kernel_rfl) (by kernel_rfl) (fun _ _ _ h => h) (Or.inl ⟨by rfl, ?_⟩) hSb ?_
    · intro Wx hSx
      go_simp
    try simp only [Act.put, List.setIfInBounds_toArray, List.set_cons_zero, List.set_cons_succ]
    refine wpAnyH_done (by kernel_rfl) ?_ _
    have hlate : lateB nn ls sn hi st d x = decide (d.f1 < hv) := by
      unfold lateB
      rw [HD.out.2.2.2.2.2.2, Int.toNat_natCast, ← HHV.out]
    have hkb : Kp Wa Wb (fun _ => False) := Kp.of_below HBB.out.1 _
    have hk6 : Kp W6 Wb (fun j => False) := HD.out.1.trans hkb (fun _ h => h) (fun _ _ h => h)
    have HK6 := Aside0.mk (And.intro hk6 (And.intro hkb hlate))
    clear hlate hkb hk6 C0 C1 C2 e0 hS hSb hHeld hHeld2
    by_cases hl : d.f1 < hv
    · have hdl3 : decide (d.f1 < hv) = true := by simpa using hl
      have c6 : Wb.cell? ⟨b6, 0, none⟩ = some (.slice none 0 0) := blk_cell (HK6.out.1.blk HH.out.2.1 (fun h => h)) 0
      have f6 : Wb.frozen? ⟨b6, 0, none⟩ = false := blk_frozen (HK6.out.1.blk HH.out.2.1 (fun h => h)) 0
      have g6 : (Wb.setCell ⟨b6, 0, none⟩ (.slice Ax x.length cx)).heap[b6]? = some (.cells #[.slice Ax x.length cx] 33 (0, 0)) := by simpa using blk_set (HK6.out.1.blk HH.out.2.1 (fun h => h)) 0 (.slice Ax x.length cx)
      have g7 : (Wb.setCell ⟨b6, 0, none⟩ (.slice Ax x.length cx)).heap[b7]? = some (.cells #[.bool false] 4 (0, 0)) := blk_far (HK6.out.1.blk HH.out.2.2.1 (fun h => h)) (fun e => HGE.out.2.2 e.symm) _
      have d7 : (Wb.setCell ⟨b6, 0, none⟩ (.slice Ax x.length cx)).cell? ⟨b7, 0, none⟩ = some (.bool false) := blk_cell g7 0
      have e7 : (Wb.setCell ⟨b6, 0, none⟩ (.slice Ax x.length cx)).frozen? ⟨b7, 0, none⟩ = false := blk_frozen g7 0
      have i6 : ((Wb.setCell ⟨b6, 0, none⟩ (.slice Ax x.length cx)).setCell ⟨b7, 0, none⟩ (.bool true)).heap[b6]? = some (.cells #[.slice Ax x.length cx] 33 (0, 0)) := blk_far g6 HGE.out.2.2 _
      have i7 : ((Wb.setCell ⟨b6, 0, none⟩ (.slice Ax x.length cx)).setCell ⟨b7, 0, none⟩ (.bool true)).heap[b7]? = some (.cells #[.bool true] 4 (0, 0)) := by simpa using blk_set g7 0 (.bool true)
      have hks : Kp Wb ((Wb.setCell ⟨b6, 0, none⟩ (.slice Ax x.length cx)).setCell ⟨b7, 0, none⟩ (.bool true)) (fun j => j = b6 ∨ j = b7) := (Kp.setCell _ _ _ _).trans (Kp.setCell _ _ _ _) (fun _ h => .inl h) (fun _ _ h => .inr h)
      have HE := Aside0.mk (And.intro i6 (And.intro i7 hks))
      clear g6 g7 i6 i7 hks
      gi_wp2
      obtain ⟨i6, i7, hks⟩ := HE.out
      have hb6W := HK6.out.1.blk HH.out.2.1 (fun h => h)
      have hb7W := HK6.out.1.blk HH.out.2.2.1 (fun h => h)
      have hl6 := blk_lt HH.out.2.1
      have hl7 := blk_lt HH.out.2.2.1
      refine ⟨⟨rfl, HK6.out.1.trans hks (fun _ h => h.elim) (fun _ _ h => h), HD.out.2.1, x, HD.out.2.2.1, by rw [HK6.out.2.2]; exact hdl3, Ax, cx, i6, i7, ?_, HD.out.2.2.2.2.1⟩, HK6.out.2.1.trans hks (fun _ h => h.elim) (fun j _ h => by rcases h with rfl | rfl <;> assumption)⟩
      refine ints_keep2 (Kd.C_below HD.out.2.2.2.1 HBB.out.1) (fun a p ha => ?_)
      have n6 := int_far hb6W (fun q e => by cases e) a p ha
      have n7 := int_far hb7W (fun q e => by cases e) a p ha
      exact (World.cell?_of_block (hks.block a.block (World.block_lt_of_cell? _ _ ha) (fun h => h.elim n6 n7))).trans ha
    · have hdl3 : decide (d.f1 < hv) = false := by simpa using hl
      gi_wp2
      refine ⟨⟨HK6.out.1, fun i y hi hy => ?_⟩, HK6.out.2.1⟩
      by_cases hik : i < k'
      · exact HD.out.2.1 i y hik hy
      · obtain rfl : i = k' := by omega
        rw [HD.out.2.2.1] at hy
        cases hy
        rw [HK6.out.2.2]; exact hdl3
end Go.Proofs.Ytgmglpnoppcnkaa
end
section
namespace Go.Proofs.Ytgmglpnoppcnkaa
open Go.RowKit Go.Proofs.YtgmglpnoppcnkaaW.PrintWords Go.Proofs.YtgmglpnoppcnkaaW.PrintLast Go.Proofs.YtgmglpnoppcnkaaW.PrintMore
set_option linter.unusedVariables false
set_option linter.unusedSimpArgs false
set_option maxRecDepth 100000
theorem asked_ok (nn uu : Int) (A : Option Addr) (c : Nat) (ls : List Lk) (sn lo hi : Int) (A2 : Option Addr) (c2 : Nat) (st : List Int) (f : Int) (d : Du) (w : World)
    (hr : Kd.C PB.k88 w A ls.length ls) (hc : ls.length ≤ c) (hr2 : Kd.C (Kd.int .i64) w A2 st.length st) (hc2 : st.length ≤ c2) (h : askE nn uu ls sn lo hi st f d = 0) :
    Calls Try.prog 95 #[.agg #[.int .i64 nn, .int .i64 uu, .slice A ls.length c], .agg #[.int .i64 sn, .int .i64 lo, .int .i64 hi], .slice A2 st.length c2, .int .i64 f, .agg #[.int .i64 d.f0, .int .i64 d.f1]] w fun e w' => ∃ cb, e = .returned (.tuple #[.pointer (some ⟨cb, 0, none⟩), .int .i64 0]) ∧ Below w.heap.size w w' ∧ CareAt w' w.heap.size cb nn uu (.slice A ls.length c) sn lo hi ls st :=
  (asked_calls nn uu A c ls sn lo hi A2 c2 st f d w hr hc hr2 hc2).mono fun e w' ⟨hb, hx⟩ => by
    rcases hx with ⟨hne, _⟩ | ⟨_, cb, he, hw⟩
    · exact absurd h hne
    · exact ⟨cb, he, hb, hw⟩
theorem askE_ok {nn uu : Int} {ls : List Lk} {sn lo hi : Int} {st : List Int} {f : Int} {d : Du} (h : askE nn uu ls sn lo hi st f d = 0) : validE nn uu ls sn lo hi st f = 0 ∧ 0 ≤ d.f0 ∧ d.f0 < nn ∧ 0 ≤ d.f1 ∧ d.f1 ≤ NV := by
  unfold askE at h
  split at h
  · rename_i h0
    refine ⟨h0, ?_⟩
    unfold duesE at h
    rw [if_neg (by simp)] at h
    unfold duesErr at h
    split at h
    · rename_i h1
      split at h
      · rename_i h2; exact ⟨h1.1, by omega, h2.1, h2.2⟩
      · omega
    · omega
  · rename_i h0; exact absurd h h0
/-- What Blame hands back. -/
noncomputable def blameL (nn : Nat) (ls : List Lk) (sn hi : Int) (st : List Int) (f : Nat) (d : Du) : Option (List Int) := (choicesL f (fineL st)).find? (lateB nn ls sn hi st d)
set_option maxHeartbeats 4000000 in
theorem Blame_ok (n : Nat) (uu : Int) (A : Option Addr) (c : Nat) (ls : List Lk) (sn lo hi : Int) (A2 : Option Addr) (c2 : Nat) (st : List Int) (f : Nat) (d : Du) (w : World)
    (hr : Kd.C PB.k88 w A ls.length ls) (hc : ls.length ≤ c) (hr2 : Kd.C (Kd.int .i64) w A2 st.length st) (hc2 : st.length ≤ c2) (h : askE n uu ls sn lo hi st f d = 0) :
    Calls Try.prog 39 #[.agg #[.int .i64 n, .int .i64 uu, .slice A ls.length c], .agg #[.int .i64 sn, .int .i64 lo, .int .i64 hi], .slice A2 st.length c2, .int .i64 f, .agg #[.int .i64 d.f0, .int .i64 d.f1]] w fun e w' => Below w.heap.size w w' ∧ ((blameL n ls sn hi st f d = none ∧ e = .returned (.tuple #[.slice none 0 0, .bool false, .int .i64 0])) ∨
      ∃ x A c, blameL n ls sn hi st f d = some x ∧ e = .returned (.tuple #[.slice A x.length c, .bool true, .int .i64 0]) ∧ IntsAt w' A x ∧ x.length ≤ c) := by
  have HR := Aside0.mk (And.intro hr (And.intro hc (And.intro hr2 hc2)))
  have HV := Aside0.mk h
  obtain ⟨hv0, hd0, hd1, -, -⟩ := askE_ok h
  obtain ⟨n', e, hO, hst, -, -, hf3⟩ := validE_ok hv0
  have : n = n' := by omega
  subst this
  have hst20 : st.length ≤ 20 := by have := hO.net.u2; omega
  have hf : f ≤ 100 := by omega
  have HO := Aside0.mk (And.intro hO (And.intro hd0 hd1))
  clear hv0 hd0 hd1 e hO hst hf3
  clear hr hc hr2 hc2 h
  go_enter Try.func39, Try.ntmps39
  go_wp2_with ((with_reducible refine gate_dst (N := 5) rfl ?_); refine hold ?_)
  refine box_event rfl (N := 5) rfl (cs := #[.int .i64 n, .int .i64 uu, .slice A ls.length c]) (t := 32) (by go_simp) ?_
  intro bn hbn w1 hb1 hB1
  have HB1 := Aside0.mk (And.intro hB1 hb1)
  clear hbn hB1 hb1
  go_wp2_with ((with_reducible refine gate_dst (N := 6) rfl ?_); refine hold ?_)
  refine box_event rfl (N := 6) rfl (cs := #[.int .i64 sn, .int .i64 lo, .int .i64 hi]) (t := 43) (by go_simp) ?_
  intro bs hbs w2 hb2 hB2
  have HB2 := Aside0.mk (And.intro (below_step HB1.out.1 hB2) (And.intro (blk_below HB1.out.2 hB2) hb2))
  clear hbs hB2 hb2
  go_wp2_with ((with_reducible refine gate_dst (N := 9) rfl ?_); refine hold ?_)
  refine box_event rfl (N := 9) rfl (cs := #[.int .i64 d.f0, .int .i64 d.f1]) (t := 94) (by go_simp) ?_
  intro bd hbd w3 hb3 hB3
  have HB3 := Aside0.mk (below_step HB2.out.1 hB3)
  have hx1 := blk_below HB2.out.2.1 hB3
  have hx2 := blk_below HB2.out.2.2 hB3
  have C0 : w3.cell? ⟨bn, 0, none⟩ = some (.int .i64 n) := blk_cell hx1 0
  have C1 : w3.cell? ⟨bn, 1, none⟩ = some (.int .i64 uu) := blk_cell hx1 1
  have C2 : w3.cell? ⟨bn, 2, none⟩ = some (.slice A ls.length c) := blk_cell hx1 2
  have C3 : w3.cell? ⟨bs, 0, none⟩ = some (.int .i64 sn) := blk_cell hx2 0
  have C4 : w3.cell? ⟨bs, 1, none⟩ = some (.int .i64 lo) := blk_cell hx2 1
  have C5 : w3.cell? ⟨bs, 2, none⟩ = some (.int .i64 hi) := blk_cell hx2 2
  have C6 : w3.cell? ⟨bd, 0, none⟩ = some (.int .i64 d.f0) := blk_cell hb3 0
  have C7 : w3.cell? ⟨bd, 1, none⟩ = some (.int .i64 d.f1) := blk_cell hb3 1
  have HBD := Aside0.mk hb3
  clear hx1 hx2 hb3 hB3 hbd
  go_wp2_with (first | (go_at_call 95; refine ((asked_ok n uu A c ls sn lo hi A2 c2 st f d _ (Kd.C_below HR.out.1 HB3.out) HR.out.2.1 (Kd.C_below HR.out.2.2.1 HB3.out) HR.out.2.2.2 HV.out).mono ?_); rintro e w4 ⟨cr, rfl, hb, hca⟩; have HB4 := Aside0.mk (below_step HB3.out hb); have HCA := Aside0.mk hca; have D6 : w4.cell? ⟨bd, 0, none⟩ = some (.int .i64 d.f0) := (blk_cell (blk_below HBD.out hb) 0); have D7 : w4.cell? ⟨bd, 1, none⟩ = some (.int .i64 d.f1) := (blk_cell (blk_below HBD.out hb) 1); clear hb hca C0 C1 C2 C3 C4 C5 C6 C7) | (go_at_call 96; refine hold ?_))
  refine (blame_calls cr w3.heap.size n uu (.slice A ls.length c) sn lo hi ls st f d _ HCA.out HO.out.1 hst20 hf HO.out.2.1 HO.out.2.2).mono ?_
  rintro e w5 ⟨hb5, ⟨hno, rfl⟩ | ⟨x, Ax, cx, hx, rfl, hA, hcx⟩⟩
  · have HE := Aside0.mk (And.intro hb5 hno)
    clear hb5 hno D6 D7
    go_wp2
    refine bodyPost_ret (results_tmp3 rfl _ _ _) rfl ?_
    exact ⟨below_step HB4.out HE.out.1, .inl ⟨HE.out.2, rfl⟩⟩
  · have HE := Aside0.mk (And.intro hb5 (And.intro hx (And.intro hA hcx)))
    clear hb5 hx hA hcx D6 D7
    go_wp2
    refine bodyPost_ret (results_tmp3 rfl _ _ _) rfl ?_
    exact ⟨below_step HB4.out HE.out.1, .inr ⟨x, Ax, cx, HE.out.2.1, rfl, HE.out.2.2.1, HE.out.2.2.2⟩⟩
end Go.Proofs.Ytgmglpnoppcnkaa
end
section
namespace Go.Proofs.Ytgmglpnoppcnkaa
open Go.RowKit Go.Proofs.YtgmglpnoppcnkaaW.PrintWords Go.Proofs.YtgmglpnoppcnkaaW.PrintLast Go.Proofs.YtgmglpnoppcnkaaW.PrintMore
set_option linter.unusedVariables false
set_option linter.unusedSimpArgs false
set_option maxRecDepth 100000
/-- The numbers from i on at which there is true. -/
def trueFrom : Nat → List Bool → List Int
  | _, [] => []
  | i, b :: r => if b then (i : Int) :: trueFrom (i + 1) r else trueFrom (i + 1) r
def listB (s : List Bool) : List Int := trueFrom 0 s
theorem trueFrom_snoc (l : List Bool) : ∀ (i : Nat) (b : Bool), trueFrom i (l ++ [b]) = if b then trueFrom i l ++ [((i + l.length : Nat) : Int)] else trueFrom i l := by
  induction l with
  | nil => intro i b; cases b <;> simp [trueFrom]
  | cons y r ih =>
    intro i b
    simp only [List.cons_append, trueFrom, ih, List.length_cons]
    rw [show i + 1 + r.length = i + (r.length + 1) by omega]
    cases b <;> cases y <;> simp
theorem trueFrom_len (l : List Bool) : ∀ i, (trueFrom i l).length ≤ l.length := by
  induction l with
  | nil => intro i; exact Nat.le_refl _
  | cons x r ih =>
    intro i
    simp only [trueFrom, List.length_cons]
    have := ih (i + 1)
    split
    · simp only [List.length_cons]; omega
    · omega
theorem listB_take (s : List Bool) (i : Nat) (hi : i < s.length) : listB (s.take (i + 1)) = if s[i] then listB (s.take i) ++ [(i : Int)] else listB (s.take i) := by
  unfold listB
  rw [List.take_add_one, List.getElem?_eq_getElem hi, Option.toList_some, trueFrom_snoc, List.length_take, Nat.zero_add, Nat.min_eq_left (by omega)]
theorem run_index_set (s : List Bool) (i : Nat) (b : Bool) (hs : s.length = 20) (hi : i < 20) (hb : s[i]? = some b) (W : World) : (Instr.index 144 (.agg (setCs s).toArray) (.int .i64 (i : Int))).run Try.prog W = .ok (.bool b) W := by
  have h1 : (0 : Int) ≤ (i : Int) ∧ (i : Int) < 20 := by omega
  have hu4 := Try.underlying4
  have hc : (setCs s)[i]? = some (.bool b) := by simp [setCs, hb]
  simp [Instr.index, Sem.run_bind, run_underlying Try.underlying144, asIntOf, Result.andThen, go_sem, h1, hc]
  intro h20
  omega
set_option maxHeartbeats 4000000 in
theorem list_calls (s : List Bool) (w : World) (hs : s.length = 20) :
    Calls Try.prog 79 #[.agg (setCs s).toArray] w fun e w' => ∃ v, e = .returned v ∧ w'.ownsRow w.heap.size 3 1 v (listB s).length (ints (listB s)) ∧ Below w.heap.size w w' := by
  obtain ⟨i3, hi3, hy0, hy1, hy2⟩ := info_parts info3
  have HS := Aside0.mk hs
  clear hs
  go_enter Try.func79, Try.ntmps79
  go_wp2_with ((with_reducible refine gate_dst (N := 1) rfl ?_); refine hold ?_)
  refine box_event rfl (N := 1) rfl (cs := (setCs s).toArray) (t := 144) (by go_simp) ?_
  intro bs hbs w1 hb1 hB1
  have HB1 := Aside0.mk (And.intro hB1 hb1)
  clear hbs hB1 hb1
  go_wp2_with ((with_reducible refine gate_dst (N := 6) rfl ?_); refine hold ?_)
  refine wpList_load_row rfl 144 (.tmp 1) rfl bs (by go_simp) 144 (setCs s).toArray (0, 0) _ HB1.out.2 Try.underlying144 rfl (by rw [List.size_toArray, setCs_length, HS.out]; exact info144) ?_
  go_wp2
  have HI0 : Aside0 (Below w.heap.size w w1 ∧ w1.ownsRow w.heap.size 3 1 (.slice none 0 0) (listB (s.take 0)).length (ints (listB (s.take 0)))) := ⟨HB1.out.1, by rw [List.take_zero]; exact ⟨rfl, .inl ⟨rfl, rfl⟩⟩⟩
  go_loopw [3, 7] (fun v3 v7 wr => ∃ i : Nat, v7 = .int .i64 i ∧ i ≤ 20 ∧ Aside0 (Below w.heap.size w wr ∧ wr.ownsRow w.heap.size 3 1 v3 (listB (s.take i)).length (ints (listB (s.take i))))) (fun _ v7 _ => 20 - (intOf v7).toNat)
  case atStart => exact ⟨0, rfl, by omega, HI0⟩
  case round =>
    obtain ⟨i, rfl, hi, HI⟩ := hrel
    clear HI0
    obtain ⟨wo, rfl⟩ : ∃ wo, wo = wr := ⟨_, rfl⟩
    by_cases hgo : i < 20
    · have hil : i < s.length := by rw [HS.out]; exact hgo
      have hwi : IntKind.i64.wrap ((i : Int) + 1) = (i : Int) + 1 := by rw [i64_w]; unfold wrap64; omega
      have hdg : decide ((i : Int) < 20) = true := by simp; omega
      obtain ⟨b, hb⟩ : ∃ b, s[i] = b := ⟨_, rfl⟩
      have hidx : (setCs s)[i]? = some (.bool b) := by simp [setCs, hil, hb]
      have hlen : (setCs s).length = 20 := by rw [setCs_length, HS.out]
      have HB := Aside0.mk (show listB (s.take (i + 1)) = if b then listB (s.take i) ++ [(i : Int)] else listB (s.take i) by rw [listB_take s i hil, hb])
      have hll : (listB (s.take i)).length ≤ 20 := by
        have := trueFrom_len (s.take i) 0
        rw [List.length_take] at this
        unfold listB
        omega
      have hix : ∀ W, (Instr.index 144 (.agg (setCs s).toArray) (.int .i64 (i : Int))).run Try.prog W = .ok (.bool b) W := run_index_set s i b HS.out hgo (by rw [List.getElem?_eq_getElem hil, hb])
      clear hb hil hidx hlen
      cases b
      · go_wp2
        go_roundw
        case rel => exact ⟨i + 1, by go_num, by omega, ⟨HI.out.1, by rw [HB.out]; exact HI.out.2⟩⟩
        case measure => simp [intOf]; omega
      · have hA : Below wo.heap.size wo (wo.alloc (.cells #[.int .i64 (i : Int)] 3)) := below_alloc (Below.refl _ _) _
        have HN : Aside0 ((wo.alloc (.cells #[.int .i64 (i : Int)] 3)).ownsRow w.heap.size 3 1 u3 (listB (s.take i)).length (ints (listB (s.take i))) ∧ Below w.heap.size w (wo.alloc (.cells #[.int .i64 (i : Int)] 3)) ∧ ∀ j u, [Value.int .i64 (i : Int)][j]? = some u → (wo.alloc (.cells #[.int .i64 (i : Int)] 3)).cell? ((⟨wo.heap.size, 0, none⟩ : Addr).add j) = some u) := ⟨HI.out.2.alloc _, below_step HI.out.1 hA, World.news_of_block (w := wo.alloc (.cells #[.int .i64 (i : Int)] 3)) (cs := #[.int .i64 (i : Int)]) (blk_new wo _)⟩
        clear hA
        go_wp2_with ((with_reducible refine gate_dst (N := 15) rfl ?_); refine hold ?_)
        refine wpList_append_lies _ rfl (.tmp 12) (.tmp 14) 33 rfl w.heap.size 3 i3 _ 1 8 Try.underlying33 hi3 hy0 hy1 hy2 rfl (by decide) u3 (listB (s.take i)).length (ints (listB (s.take i))) (by go_simp) HN.out.1 ⟨wo.heap.size, 0, none⟩ 1 1 [.int .i64 (i : Int)] (by go_simp) rfl HN.out.2.2 (by simp [Value.oneCell']) (by decide) (by unfold maxLen; omega) (by omega) HN.out.2.1.size _ rfl ?_
        intro g cap w5 hown5 hg5 hor hlt5
        have HI5 : Aside0 (Below w.heap.size w w5 ∧ w5.ownsRow w.heap.size 3 1 (.slice (some ⟨g, 0, none⟩) ((listB (s.take i)).length + 1) cap) (listB (s.take (i + 1))).length (ints (listB (s.take (i + 1))))) := by
          refine ⟨HN.out.2.1.trans ((Kp.grown hg5).below HN.out.2.1.size (fun k hk => own_base HN.out.1 k hk.symm)), ?_⟩
          rw [HB.out]
          simpa [ints] using hown5
        clear hown5 hg5 hor hlt5
        obtain ⟨N, hN⟩ : ∃ N, N = (listB (s.take i)).length + 1 := ⟨_, rfl⟩
        rw [← hN] at HI5 ⊢
        clear hN hll
        go_wp2
        go_roundw
        case rel => exact ⟨i + 1, by go_num, by omega, HI5⟩
        case measure => simp [intOf]; omega
    · obtain rfl : i = 20 := by omega
      clear hi hgo
      go_wp2
      go_ret
      have h2 := HI.out.2
      rw [List.take_of_length_le (by rw [HS.out]; exact Nat.le_refl _)] at h2
      exact ⟨_, rfl, h2, HI.out.1⟩
end Go.Proofs.Ytgmglpnoppcnkaa
end
section
namespace Go.Proofs.Ytgmglpnoppcnkaa
open Go.RowKit Go.Proofs.YtgmglpnoppcnkaaW.PrintWords Go.Proofs.YtgmglpnoppcnkaaW.PrintLast Go.Proofs.YtgmglpnoppcnkaaW.PrintMore
set_option linter.unusedVariables false
set_option linter.unusedSimpArgs false
set_option maxRecDepth 100000
theorem hu165 : Try.prog.underlying 165 = some (.map 3 3) := by kernel_rfl
theorem zero3 (w : World) : (zeroValue 3).run Try.prog w = .ok (.int .i64 0) w := by rfl
/-- The times that a map of receipts tells. -/
def TimesAt (w : World) (m : Nat) (tm : Int → Option Int) : Prop := ∃ L c, MapAt w m L c ∧ ∀ k, lookL L k = (tm k).map (Value.int .i64)
def runCs (wp m : Nat) (failed : List Bool) : List Value := .pointer (some ⟨wp, 0, none⟩) :: .map (some m) :: setCs failed
structure RunAt (w : World) (rb wp m : Nat) (tm : Int → Option Int) (failed : List Bool) : Prop where
  blk : w.heap[rb]? = some (.cells (runCs wp m failed).toArray 167 (0, 0))
  tm : TimesAt w m tm
  len : failed.length = 20
theorem RunAt.below {w W : World} {rb wp m : Nat} {tm : Int → Option Int} {failed : List Bool} (h : RunAt w rb wp m tm failed) (hb : Below w.heap.size w W) : RunAt W rb wp m tm failed := by
  obtain ⟨L, c, h1, h2⟩ := h.tm
  exact ⟨blk_below h.blk hb, ⟨L, c, (hb.block m (blk_lt h1)).trans h1, h2⟩, h.len⟩
theorem RunAt.look {w : World} {rb wp m : Nat} {tm : Int → Option Int} {failed : List Bool} (h : RunAt w rb wp m tm failed) (k : Int) :
    (Instr.lookup 165 (.map (some m)) (.int .i64 k) true).run Try.prog w = .ok (.tuple #[.int .i64 ((tm k).getD 0), .bool (tm k).isSome]) w := by
  obtain ⟨L, c, h1, h2⟩ := h.tm
  rw [run_look_ok w 165 3 hu165 _ (zero3 w) m L c h1 k, h2]
  cases tm k <;> rfl
theorem RunAt.look1 {w : World} {rb wp m : Nat} {tm : Int → Option Int} {failed : List Bool} (h : RunAt w rb wp m tm failed) (k : Int) :
    (Instr.lookup 165 (.map (some m)) (.int .i64 k) false).run Try.prog w = .ok (.int .i64 ((tm k).getD 0)) w := by
  obtain ⟨L, c, h1, h2⟩ := h.tm
  rw [run_look w 165 3 hu165 _ (zero3 w) m L c h1 k, h2]
  cases tm k <;> rfl
/-- The link is sure and did not pass on a warning. -/
def silentB (tm : Int → Option Int) (l : Lk) (u : Int) : Bool :=
  match tm l.f0 with
  | none => false
  | some t => l.f4 && decide (t + l.f2.f1 ≤ u) && (match tm l.f1 with | none => true | some s => decide (t + l.f2.f1 < s))
set_option maxHeartbeats 4000000 in
theorem silent_calls (rb wp m : Nat) (tm : Int → Option Int) (failed : List Bool) (l : Lk) (u : Int) (w : World) (hr : RunAt w rb wp m tm failed) (hb : ∀ k t, tm k = some t → 0 ≤ t ∧ t ≤ 1000000000) (hd : 0 ≤ l.f2.f1 ∧ l.f2.f1 ≤ 1000000000) :
    Calls Try.prog 75 #[.pointer (some ⟨rb, 0, none⟩), .agg (linkCs l), .int .i64 u] w fun e w' => e = .returned (.bool (silentB tm l u)) ∧ Below w.heap.size w w' := by
  have HR := Aside0.mk hr
  clear hr
  unfold linkCs
  go_enter Try.func75, Try.ntmps75
  go_wp2_with ((with_reducible refine gate_dst (N := 4) rfl ?_); refine hold ?_)
  refine box_event rfl (N := 4) rfl (cs := linkCs l) (t := 88) (by unfold linkCs; go_simp) ?_
  intro lb hlb w1 hb1 hB1
  have hR1 := HR.out.below hB1
  have HB1 := Aside0.mk (And.intro hB1 hb1)
  have C0 : ∀ W, Below w1.heap.size w1 W → W.cell? ⟨rb, 1, none⟩ = some (.map (some m)) := fun W h => blk_cell (blk_below hR1.blk h) 1
  have C1 : ∀ W, Below w1.heap.size w1 W → W.cell? ⟨lb, 0, none⟩ = some (.int .i64 l.f0) := fun W h => blk_cell (blk_below hb1 h) 0
  have C2 : ∀ W, Below w1.heap.size w1 W → W.cell? ⟨lb, 1, none⟩ = some (.int .i64 l.f1) := fun W h => blk_cell (blk_below hb1 h) 1
  have L0 : (Instr.lookup 165 (.map (some m)) (.int .i64 l.f0) true).run Try.prog w1.drew = .ok (.tuple #[.int .i64 ((tm l.f0).getD 0), .bool (tm l.f0).isSome]) w1.drew := (hR1.below (below_drew1 (Below.refl _ _))).look l.f0
  have L1 : (Instr.lookup 165 (.map (some m)) (.int .i64 l.f1) true).run Try.prog w1.drew.drew = .ok (.tuple #[.int .i64 ((tm l.f1).getD 0), .bool (tm l.f1).isSome]) w1.drew.drew := (hR1.below (below_drew1 (below_drew1 (Below.refl _ _)))).look l.f1
  have HB := Aside0.mk (And.intro hb hd)
  clear hR1 hB1 hb1 hlb hb hd
  go_wp2
  go_region_held3 (fun W => Below w1.heap.size w1 W) (first | exact below_drew1 (Below.refl _ _) | exact below_drew1 (by assumption) | exact below_step (by assumption) (by assumption)) (fail)
  go_wp2
  go_region_held3 (fun W => Below w1.heap.size w1 W) (first | exact below_drew1 (Below.refl _ _) | exact below_drew1 (below_drew1 (Below.refl _ _)) | exact below_step (by assumption) (by assumption)) (fail)
  rename_i hH
  have D3 : w1.drew.drew.cell? ⟨lb, 3, none⟩ = some (.int .i64 l.f2.f1) := blk_cell (blk_below HB1.out.2 hH) 3
  have D4 : w1.drew.drew.cell? ⟨lb, 5, none⟩ = some (.bool l.f4) := blk_cell (blk_below HB1.out.2 hH) 5
  have HBX := Aside0.mk (below_step HB1.out.1 hH)
  clear hH C0 C1 C2 L0 L1
  generalize w1.drew.drew = w2 at D3 D4 HBX ⊢
  have hfin : ∀ (b : Bool), Aside0 (silentB tm l u = b) → (Ending.returned (.bool b) = Ending.returned (.bool (silentB tm l u)) ∧ Below w.heap.size w w2) := fun b hb => ⟨by rw [hb.out], HBX.out⟩
  have HF := Aside0.mk hfin
  clear hfin
  cases h0 : tm l.f0 with
  | none =>
    have HS : Aside0 (silentB tm l u = false) := ⟨by unfold silentB; rw [h0]⟩
    cases h1 : tm l.f1 with
    | none =>
      cases h4 : l.f4 <;> (go_wp2; go_ret; exact HF.out _ HS)
    | some s =>
      cases h4 : l.f4 <;> (go_wp2; go_ret; exact HF.out _ HS)
  | some t =>
    have ht := HB.out.1 _ _ h0
    have hd := HB.out.2
    have hw : IntKind.i64.wrap (t + l.f2.f1) = t + l.f2.f1 := by rw [i64_w]; unfold wrap64; omega
    clear ht hd
    cases h1 : tm l.f1 with
    | none =>
      cases h4 : l.f4
      · have HS : Aside0 (silentB tm l u = false) := ⟨by unfold silentB; rw [h0, h4]; rfl⟩
        go_wp2; go_ret; exact HF.out _ HS
      · by_cases h5 : t + l.f2.f1 ≤ u
        · have hd5 : decide (t + l.f2.f1 ≤ u) = true := by simpa using h5
          have HS : Aside0 (silentB tm l u = true) := ⟨by unfold silentB; rw [h0, h1, h4]; simp [h5]⟩
          clear h5
          go_wp2; go_ret; exact HF.out _ HS
        · have hd5 : decide (t + l.f2.f1 ≤ u) = false := by simpa using h5
          have HS : Aside0 (silentB tm l u = false) := ⟨by unfold silentB; rw [h0, h1, h4]; simp [h5]⟩
          clear h5
          go_wp2; go_ret; exact HF.out _ HS
    | some s =>
      by_cases h6 : s ≤ t + l.f2.f1
      · have hd6 : decide (s ≤ t + l.f2.f1) = true := by simpa using h6
        have HS : Aside0 (silentB tm l u = false) := ⟨by unfold silentB; rw [h0, h1]; simp; intro _ _; omega⟩
        clear h6
        go_wp2; go_ret; exact HF.out _ HS
      · have hd6 : decide (s ≤ t + l.f2.f1) = false := by simpa using h6
        cases h4 : l.f4
        · have HS : Aside0 (silentB tm l u = false) := ⟨by unfold silentB; rw [h0, h4]; rfl⟩
          clear h6
          go_wp2; go_ret; exact HF.out _ HS
        · by_cases h5 : t + l.f2.f1 ≤ u
          · have hd5 : decide (t + l.f2.f1 ≤ u) = true := by simpa using h5
            have HS : Aside0 (silentB tm l u = true) := ⟨by unfold silentB; rw [h0, h1, h4]; simp [h5]; omega⟩
            clear h5 h6
            go_wp2; go_ret; exact HF.out _ HS
          · have hd5 : decide (t + l.f2.f1 ≤ u) = false := by simpa using h5
            have HS : Aside0 (silentB tm l u = false) := ⟨by unfold silentB; rw [h0, h1, h4]; simp [h5]⟩
            clear h5 h6
            go_wp2; go_ret; exact HF.out _ HS
end Go.Proofs.Ytgmglpnoppcnkaa
end
section
namespace Go.Proofs.Ytgmglpnoppcnkaa
open Go.ChangeMaps (setBlock)
open Go.RowKit Go.Proofs.YtgmglpnoppcnkaaW.PrintWords Go.Proofs.YtgmglpnoppcnkaaW.PrintLast Go.Proofs.YtgmglpnoppcnkaaW.PrintMore
set_option linter.unusedVariables false
set_option linter.unusedSimpArgs false
set_option maxRecDepth 100000
/-- No stamp stands twice, and none is to come. -/
def BornOk (L : List Ent) (c : Nat) : Prop := (L.map (·.2.2)).Nodup ∧ ∀ x ∈ L, x.2.2 < c
theorem bornOk_nil (c : Nat) : BornOk [] c := ⟨by simp, by simp⟩
theorem setL_born (L : List Ent) (k : Int) (v : Value) : (putL.setL L k v).map (·.2.2) = L.map (·.2.2) := by
  induction L with
  | nil => rfl
  | cons x L ih =>
    simp only [putL.setL]
    split
    · simp
    · simp [ih]
theorem bornOk_put {L : List Ent} {c : Nat} (h : BornOk L c) (k : Int) (v : Value) (c' : Nat) (hc : c' = if (lookL L k).isSome then c else c + 1) : BornOk (putL L c k v) c' := by
  unfold putL
  split
  · rename_i hs
    rw [if_pos hs] at hc
    have e := setL_born L k v
    refine ⟨by rw [e]; exact h.1, fun x hx => ?_⟩
    have : x.2.2 ∈ (putL.setL L k v).map (·.2.2) := List.mem_map.2 ⟨x, hx, rfl⟩
    rw [e] at this
    obtain ⟨y, hy, e2⟩ := List.mem_map.1 this
    rw [← e2, hc]
    exact h.2 y hy
  · rename_i hs
    rw [if_neg hs] at hc
    refine ⟨?_, fun x hx => ?_⟩
    · rw [List.map_append, List.nodup_append]
      refine ⟨h.1, by simp, ?_⟩
      intro a ha b hb e
      obtain ⟨y, hy, e2⟩ := List.mem_map.1 ha
      have := h.2 y hy
      simp at hb
      omega
    · rcases List.mem_append.1 hx with h1 | h1
      · have := h.2 x h1
        omega
      · simp at h1
        rw [h1, hc]
        simp
theorem lookL_mem {L : List Ent} {k : Int} {v : Value} (h : lookL L k = some v) : ∃ x ∈ L, x.1 = k ∧ x.2.1 = v := by
  induction L with
  | nil => simp [lookL] at h
  | cons x L ih =>
    simp only [lookL] at h
    split at h
    · rename_i e
      cases h
      exact ⟨x, List.mem_cons_self, e.symm, rfl⟩
    · obtain ⟨y, hy, e⟩ := ih h
      exact ⟨y, List.mem_cons_of_mem _ hy, e⟩
theorem mem_lookL {L : List Ent} {x : Ent} (h : x ∈ L) : (lookL L x.1).isSome = true := by
  induction L with
  | nil => simp at h
  | cons y L ih =>
    simp only [lookL]
    split
    · rfl
    · rename_i e
      rcases List.mem_cons.1 h with rfl | h
      · exact absurd rfl e
      · exact ih h
/-- m[k] = v, with the stamps. -/
theorem run_store2 (w : World) (T e : TypeId) (hT : Try.prog.underlying T = some (.map 3 e)) (m : Nat) (L : List Ent) (c : Nat) (h : MapAt w m L c) (hb : BornOk L c) (k : Int) (v : Value) :
    ∃ c', (Instr.mapUpdate T (.map (some m)) (.int .i64 k) v).run Try.prog w = .ok () { w with heap := w.heap.setIfInBounds m (.map ((putL L c k v).map mkE).toArray c') } ∧ BornOk (putL L c k v) c' := by
  refine ⟨if (lookL L k).isSome then c else c + 1, ?_, bornOk_put hb k v _ rfl⟩
  have hset : ∀ o : Obj, (setObj m o).run Try.prog w = .ok () { w with heap := w.heap.setIfInBounds m o } := fun o => by simp [setObj, Sem.run, show w.heap[m]? = _ from h]
  simp only [Instr.mapUpdate, Sem.run_bind, run_underlying hT, Result.andThen, run_getMap h, run_checkKey, run_findKey]
  have hl := idxL_look L k 0
  cases hi : idxL L k 0 with
  | none =>
    rw [hi] at hl
    have hl' : lookL L k = none := hl.symm
    simp only [hset]
    unfold putL
    rw [hl']
    simp [mkE]
  | some r =>
    obtain ⟨j, u⟩ := r
    rw [hi] at hl
    have hl' : lookL L k = some u := hl.symm
    obtain ⟨d, hd, h1, h2⟩ := modify_idx L k v 0 j u hi
    obtain rfl : j = d := by omega
    have hkey : (((L.map mkE).toArray[j]?).map (·.key)).getD (.int .i64 k) = .int .i64 k := by
      rw [List.getElem?_toArray, h1]; rfl
    simp only [Sem.run_bind, hkey, Instr.keyThatStays, Instr.sameBits, beq_self_eq_true, Bool.and_self, if_true, Sem.run_pure, Result.andThen, hset]
    unfold putL
    rw [hl']
    simp only [Option.isSome_some, if_true]
    rw [← h2]
    simp
/-- An iterator over the map in block m lies in block r: what it has handed out. -/
def IterAt (w : World) (r m : Nat) (c : Nat) (seen : List Nat) : Prop := ∃ c0, c ≤ c0 ∧ w.heap[r]? = some (.mapIter (some m) c seen.toArray c0)
theorem run_range_at (w : World) (T e : TypeId) (hT : Try.prog.underlying T = some (.map 3 e)) (m : Nat) (L : List Ent) (c : Nat) (h : MapAt w m L c) :
    (Instr.range T (.map (some m))).run Try.prog w = .ok (.pointer (some ⟨w.heap.size, 0, none⟩)) (w.alloc (.mapIter (some m) c #[] c)) := run_range_map w T 3 e m _ c hT h
theorem iterAt_new (w : World) (m c : Nat) : IterAt (w.alloc (.mapIter (some m) c #[] c)) w.heap.size m c [] := ⟨c, Nat.le_refl _, heap_alloc_new w _⟩
theorem kp_setBlock (w : World) (r : Nat) (o : Obj) : Kp w (setBlock w r o) (fun i => i = r) := by
  refine ⟨rfl, rfl, rfl, ?_, fun i hi hn => ?_⟩
  · simp [setBlock]
  · simp only [setBlock, Array.getElem?_setIfInBounds]
    rw [if_neg (fun e => hn e.symm)]
theorem ent_inj {L : List Ent} (hn : (L.map (·.2.2)).Nodup) {x y : Ent} (hx : x ∈ L) (hy : y ∈ L) (e : x.2.2 = y.2.2) : x = y := by
  induction L with
  | nil => simp at hx
  | cons a L ih =>
    simp only [List.map_cons, List.nodup_cons, List.mem_map, not_exists, not_and] at hn
    rcases List.mem_cons.1 hx with h1 | h1
    · rcases List.mem_cons.1 hy with h2 | h2
      · rw [h1, h2]
      · exact absurd (by rw [← e, h1]) (hn.1 y h2)
    · rcases List.mem_cons.1 hy with h2 | h2
      · exact absurd (by rw [e, h2]) (hn.1 x h1)
      · exact ih hn.2 h1 h2
theorem born_nodup {L : List Ent} (hn : (L.map (·.2.2)).Nodup) : ((L.map mkE).toArray.toList.map (·.born)).Nodup := by
  rw [List.map_map]
  exact hn
/-- The iterator's next step. -/
theorem run_next_ent (w : World) (ty : TypeId) (r m : Nat) (L : List Ent) (c : Nat) (seen : List Nat) (hm : MapAt w m L c) (hb : BornOk L c) (hr : IterAt w r m c seen) :
    ((∀ x ∈ L, x.2.2 ∈ seen) ∧ (Instr.next (.pointer (some ⟨r, 0, none⟩)) false ty).run Try.prog w = .ok (.tuple #[.bool false]) w) ∨
    ∃ x ∈ L, x.2.2 ∉ seen ∧ ∃ w1 w2 : World, (w1 = w ∨ w1 = w.drew) ∧ (Instr.next (.pointer (some ⟨r, 0, none⟩)) false ty).run Try.prog w = .ok (.tuple #[.bool true, .int .i64 x.1, x.2.1]) w2 ∧ Kp w1 w2 (fun i => i = r) ∧ w2.heap.size = w.heap.size ∧ IterAt w2 r m c (seen ++ [x.2.2]) ∧
      (Instr.entry (.pointer (some ⟨r, 0, none⟩))).run Try.prog w2 = .ok (.tuple #[.int .i64 x.1, x.2.1]) w2 := by
  obtain ⟨c0, hc0, hr⟩ := hr
  have hold : ∀ x ∈ (L.map mkE).toArray.toList, x.born < c := by
    intro x hx
    obtain ⟨y, hy, rfl⟩ := List.mem_map.1 (show x ∈ L.map mkE from hx)
    exact hb.2 y hy
  have hrm : r ≠ m := fun e => by
    rw [e, show w.heap[m]? = _ from hm] at hr
    cases hr
  rcases run_next_at w ty r m c c0 seen.toArray (L.map mkE).toArray c hr hm hold hc0 with ⟨h0, hrun⟩ | ⟨e, he, w1, hw1, hrun⟩
  · refine .inl ⟨fun x hx => ?_, hrun⟩
    have hE : leftOf (L.map mkE).toArray seen.toArray = #[] := Array.eq_empty_of_size_eq_zero h0
    unfold leftOf at hE
    rw [Array.filter_eq_empty_iff] at hE
    have := hE (mkE x) (by simpa using ⟨x.1, x.2.1, x.2.2, hx, rfl⟩)
    simpa [mkE] using this
  · unfold leftOf at he
    simp only [Array.toList_filter, List.mem_filter] at he
    obtain ⟨he1, he2⟩ := he
    obtain ⟨x, hx, rfl⟩ := List.mem_map.1 (show e ∈ L.map mkE from he1)
    refine .inr ⟨x, hx, ?_, w1, _, hw1, hrun, ?_, ?_, ?_, ?_⟩
    · simpa [mkE] using he2
    · exact kp_setBlock _ _ _
    · rcases hw1 with rfl | rfl <;> simp [setBlock]
    · refine ⟨c, Nat.le_refl _, ?_⟩
      have hlt : r < w1.heap.size := by rcases hw1 with rfl | rfl <;> exact blk_lt hr
      simp [setBlock, Array.getElem?_setIfInBounds, hlt, mkE]
    · have h1 : (setBlock w1 r (.mapIter (some m) c (seen.toArray.push (mkE x).born) c)).heap[r]? = some (.mapIter (some m) c (seen.toArray.push (mkE x).born) c) := by
        have hlt : r < w1.heap.size := by rcases hw1 with rfl | rfl <;> exact blk_lt hr
        simp [setBlock, Array.getElem?_setIfInBounds, hlt]
      have h2 : (setBlock w1 r (.mapIter (some m) c (seen.toArray.push (mkE x).born) c)).heap[m]? = some (.map (L.map mkE).toArray c) := by
        rw [(kp_setBlock w1 r _).block m (by rcases hw1 with rfl | rfl <;> exact blk_lt hm) (fun e => hrm e.symm)]
        rcases hw1 with rfl | rfl <;> exact hm
      exact run_entry_at _ r m c seen.toArray (L.map mkE).toArray c (mkE x) h1 h2 he1 (born_nodup hb.1)
/-- How many entries are still to come. -/
def leftN (L : List Ent) (seen : List Nat) : Nat := (L.filter (fun x => decide (x.2.2 ∉ seen))).length
theorem leftN_less {L : List Ent} {seen : List Nat} {x : Ent} (hx : x ∈ L) (hn : x.2.2 ∉ seen) : leftN L (seen ++ [x.2.2]) < leftN L seen := by
  unfold leftN
  induction L with
  | nil => simp at hx
  | cons y L ih =>
    have hle : ∀ L : List Ent, (L.filter (fun x_1 => decide (x_1.2.2 ∉ seen ++ [x.2.2]))).length ≤ (L.filter (fun x => decide (x.2.2 ∉ seen))).length := by
      intro L
      induction L with
      | nil => simp
      | cons z L ih =>
        simp only [List.filter_cons]
        by_cases h1 : z.2.2 ∈ seen
        · simpa [h1] using ih
        · by_cases h2 : z.2.2 = x.2.2
          · simp [h1, h2, hn] at ih ⊢
            omega
          · simpa [h1, h2] using ih
    rcases List.mem_cons.1 hx with rfl | hx
    · have := hle L
      simp [List.filter_cons, hn] at this ⊢
      omega
    · have h3 := ih hx
      simp only [List.filter_cons]
      by_cases h1 : y.2.2 ∈ seen
      · simpa [h1] using h3
      · by_cases h2 : y.2.2 = x.2.2
        · simp [h1, h2, hn] at h3 ⊢
          omega
        · simpa [h1, h2] using h3
end Go.Proofs.Ytgmglpnoppcnkaa
end
section
namespace Go.Proofs.Ytgmglpnoppcnkaa
open Go.RowKit Go.Proofs.YtgmglpnoppcnkaaW.PrintWords Go.Proofs.YtgmglpnoppcnkaaW.PrintLast Go.Proofs.YtgmglpnoppcnkaaW.PrintMore
set_option linter.unusedVariables false
set_option linter.unusedSimpArgs false
set_option maxRecDepth 100000
/-- The link can have brought the receipt of its end. -/
def broughtB (tm : Int → Option Int) (failed : List Bool) (l : Lk) : Bool :=
  match tm l.f0 with
  | none => false
  | some t => decide (t + l.f2.f0 ≤ (tm l.f1).getD 0 ∧ (tm l.f1).getD 0 ≤ t + l.f2.f1) && !hasB failed l.f3
theorem run_range {w : World} {rb wp m : Nat} {tm : Int → Option Int} {failed : List Bool} (h : RunAt w rb wp m tm failed) : w.rangeAt rb 2 (setCs failed) := fun j v hj => by
  rw [blk_cell h.blk (2 + j)]
  show (runCs wp m failed).toArray[2 + j]? = _
  simp only [List.getElem?_toArray]
  rw [runCs, show 2 + j = j + 1 + 1 by omega, List.getElem?_cons_succ, List.getElem?_cons_succ]
  exact hj
set_option maxHeartbeats 1000000 in
theorem within_same (a lo hi : Int) (w : World) : Calls Try.prog 72 #[.int .i64 a, .int .i64 lo, .int .i64 hi] w fun e w' => e = .returned (.bool (decide (lo ≤ a ∧ a ≤ hi))) ∧ w' = w := by
  by_cases h1 : lo ≤ a
  · have d1 : decide (lo ≤ a) = true := by simpa using h1
    have HF : Aside0 (decide (lo ≤ a ∧ a ≤ hi) = decide (a ≤ hi)) := ⟨by simp [h1]⟩
    clear h1
    go_enter Try.func72, Try.ntmps72
    go_wp2
    go_ret
    exact ⟨by rw [HF.out]; rfl, rfl⟩
  · have d1 : decide (lo ≤ a) = false := by simpa using h1
    have HF : Aside0 (decide (lo ≤ a ∧ a ≤ hi) = false) := ⟨by simp [h1]⟩
    clear h1
    go_enter Try.func72, Try.ntmps72
    go_wp2
    go_ret
    exact ⟨by rw [HF.out]; rfl, rfl⟩
set_option maxHeartbeats 4000000 in
theorem brought_calls (rb wp m : Nat) (tm : Int → Option Int) (failed : List Bool) (l : Lk) (w : World) (hr : RunAt w rb wp m tm failed) (hb : ∀ k t, tm k = some t → 0 ≤ t ∧ t ≤ 1000000000) (hd : 0 ≤ l.f2.f0 ∧ l.f2.f0 ≤ 1000000000 ∧ 0 ≤ l.f2.f1 ∧ l.f2.f1 ≤ 1000000000) (hu0 : -1 ≤ l.f3) (hu1 : l.f3 < 20) :
    Calls Try.prog 76 #[.pointer (some ⟨rb, 0, none⟩), .agg (linkCs l)] w fun e w' => e = .returned (.bool (broughtB tm failed l)) ∧ Below w.heap.size w w' := by
  have HR := Aside0.mk hr
  clear hr
  unfold linkCs
  go_enter Try.func76, Try.ntmps76
  go_wp2_with ((with_reducible refine gate_dst (N := 3) rfl ?_); refine hold ?_)
  refine box_event rfl (N := 3) rfl (cs := linkCs l) (t := 88) (by unfold linkCs; go_simp) ?_
  intro lb hlb w1 hb1 hB1
  have hR1 := HR.out.below hB1
  have HB1 := Aside0.mk (And.intro hB1 (And.intro hb1 hR1))
  have C0 : ∀ W, Below w1.heap.size w1 W → W.cell? ⟨rb, 1, none⟩ = some (.map (some m)) := fun W h => blk_cell (blk_below hR1.blk h) 1
  have C1 : ∀ W, Below w1.heap.size w1 W → W.cell? ⟨lb, 0, none⟩ = some (.int .i64 l.f0) := fun W h => blk_cell (blk_below hb1 h) 0
  have L0 : (Instr.lookup 165 (.map (some m)) (.int .i64 l.f0) true).run Try.prog w1.drew = .ok (.tuple #[.int .i64 ((tm l.f0).getD 0), .bool (tm l.f0).isSome]) w1.drew := (hR1.below (below_drew1 (Below.refl _ _))).look l.f0
  have HB := Aside0.mk (And.intro hb hd)
  clear hR1 hB1 hb1 hlb hb hd
  go_wp2
  go_region_held3 (fun W => Below w1.heap.size w1 W) (first | exact below_drew1 (Below.refl _ _) | exact below_step (by assumption) (by assumption)) (fail)
  rename_i hH
  have HR2 := Aside0.mk (And.intro hH (HB1.out.2.2.below hH))
  have HBX := Aside0.mk (And.intro (below_step HB1.out.1 hH) (blk_below HB1.out.2.1 hH))
  clear hH C0 C1 L0
  generalize w1.drew = w2 at HR2 HBX ⊢
  obtain ⟨T0, hT0⟩ : ∃ T0, T0 = (tm l.f0).getD 0 := ⟨_, rfl⟩
  obtain ⟨B0, hB0⟩ : ∃ B0, B0 = (tm l.f0).isSome := ⟨_, rfl⟩
  rw [← hT0, ← hB0]
  cases B0
  · have HS : Aside0 (broughtB tm failed l = false) := ⟨by
      have h0 : tm l.f0 = none := by simpa using hB0.symm
      unfold broughtB; rw [h0]⟩
    clear hT0 hB0
    go_wp2
    refine wp_region_quiet_lit (by kernel_rfl) (by kernel_rfl) ?_
    repeat (go_big_quiet_step (fail))
    apply wpQuiet_nil
    intro _ hw'
    obtain ⟨nq, hw''⟩ := hw'
    subst hw''
    go_wp2
    go_ret
    exact ⟨by rw [HS.out]; rfl, below_step HBX.out.1 (pw_below_drewN (Below.refl _ _) nq)⟩
  · have h0 : tm l.f0 = some T0 := by
      obtain ⟨t, ht⟩ := Option.isSome_iff_exists.1 hB0.symm
      rw [ht] at hT0 ⊢
      rw [hT0]; rfl
    have ht := HB.out.1 _ _ h0
    have hd := HB.out.2
    have hw0 : IntKind.i64.wrap (T0 + l.f2.f0) = T0 + l.f2.f0 := by rw [i64_w]; unfold wrap64; omega
    have hw1 : IntKind.i64.wrap (T0 + l.f2.f1) = T0 + l.f2.f1 := by rw [i64_w]; unfold wrap64; omega
    clear ht hd hT0 hB0
    have H0 := Aside0.mk h0
    clear h0
    have L1 : ∀ W, Below w2.heap.size w2 W → (Instr.lookup 165 (.map (some m)) (.int .i64 l.f1) false).run Try.prog W = .ok (.int .i64 ((tm l.f1).getD 0)) W := fun W h => (HR2.out.2.below h).look1 l.f1
    obtain ⟨s, hs⟩ : ∃ s, s = (tm l.f1).getD 0 := ⟨_, rfl⟩
    rw [← hs] at L1
    have HSS := Aside0.mk hs
    clear hs
    by_cases hin : T0 + l.f2.f0 ≤ s ∧ s ≤ T0 + l.f2.f1
    · have HS : Aside0 (broughtB tm failed l = !hasB failed l.f3) := ⟨by unfold broughtB; rw [H0.out, ← HSS.out]; simp [hin]⟩
      have HIN := Aside0.mk (decide_eq_true hin)
      clear hin
      go_wp2
      have C0 : ∀ W, Below w2.heap.size w2 W → W.cell? ⟨rb, 1, none⟩ = some (.map (some m)) := fun W h => blk_cell (blk_below HR2.out.2.blk h) 1
      have C1 : ∀ W, Below w2.heap.size w2 W → W.cell? ⟨lb, 1, none⟩ = some (.int .i64 l.f1) := fun W h => blk_cell (blk_below HBX.out.2 h) 1
      have C2 : ∀ W, Below w2.heap.size w2 W → W.cell? ⟨lb, 2, none⟩ = some (.int .i64 l.f2.f0) := fun W h => blk_cell (blk_below HBX.out.2 h) 2
      have C3 : ∀ W, Below w2.heap.size w2 W → W.cell? ⟨lb, 3, none⟩ = some (.int .i64 l.f2.f1) := fun W h => blk_cell (blk_below HBX.out.2 h) 3
      have C4 : ∀ W, Below w2.heap.size w2 W → W.cell? ⟨lb, 4, none⟩ = some (.int .i64 l.f3) := fun W h => blk_cell (blk_below HBX.out.2 h) 4
      have C5 : ∀ W, Below w2.heap.size w2 W → W.rangeAt rb 2 (setCs failed) := fun W h => run_range (HR2.out.2.below h)
      have HC72 : Aside0 (∀ W, Calls Try.prog 72 #[.int .i64 s, .int .i64 (T0 + l.f2.f0), .int .i64 (T0 + l.f2.f1)] W fun e w' => e = .returned (.bool true) ∧ w' = W) := ⟨fun W => by have := within_same s (T0 + l.f2.f0) (T0 + l.f2.f1) W; rw [HIN.out] at this; exact this⟩
      have HC106 : Aside0 (∀ W, Calls Try.prog 106 #[.agg (setCs failed).toArray, .int .i64 l.f3] W fun e w' => e = .returned (.bool (hasB failed l.f3)) ∧ Below W.heap.size W w') := ⟨fun W => has_calls failed l.f3 W HR2.out.2.len hu0 hu1⟩
      have hu144 := Try.underlying144
      have hi144 : (Try.prog.info? 144).map (·.size) = some (setCs failed).length := by rw [setCs_length, HR2.out.2.len]; exact info144
      have H5 := Aside0.mk C5
      clear C5
      go_region_held3 (fun W => Below w2.heap.size w2 W ∧ W.rangeAt rb 2 (setCs failed)) (first | exact keepC0 (fun W h => H5.out W h) | exact keepC (fun W h => H5.out W h) (by assumption) (by assumption)) (first | (go_at_call 72; refine (HC72.out _).mono ?_; rintro e w' ⟨rfl, rfl⟩) | (go_at_call 106; refine (HC106.out _).mono ?_; rintro e w' ⟨rfl, hb3⟩))
      rename_i hH
      have HH := Aside0.mk hH.1
      clear hH hb3 C0 C1 C2 C3 C4 L1 hu144 hi144
      go_wp2
      go_ret
      exact ⟨by rw [HS.out]; rfl, below_step HBX.out.1 HH.out⟩
    · have HS : Aside0 (broughtB tm failed l = false) := ⟨by unfold broughtB; rw [H0.out, ← HSS.out]; simp; intro a b; omega⟩
      have HIN := Aside0.mk (decide_eq_false hin)
      clear hin
      have D0 : ∀ n, (w2.drewN n).cell? ⟨rb, 1, none⟩ = some (.map (some m)) := fun n => blk_cell (blk_below HR2.out.2.blk (pw_below_drewN (Below.refl _ _) n)) 1
      have D1 : ∀ n, (w2.drewN n).cell? ⟨lb, 1, none⟩ = some (.int .i64 l.f1) := fun n => blk_cell (blk_below HBX.out.2 (pw_below_drewN (Below.refl _ _) n)) 1
      have D2 : ∀ n, (w2.drewN n).cell? ⟨lb, 2, none⟩ = some (.int .i64 l.f2.f0) := fun n => blk_cell (blk_below HBX.out.2 (pw_below_drewN (Below.refl _ _) n)) 2
      have D3 : ∀ n, (w2.drewN n).cell? ⟨lb, 3, none⟩ = some (.int .i64 l.f2.f1) := fun n => blk_cell (blk_below HBX.out.2 (pw_below_drewN (Below.refl _ _) n)) 3
      have L2 : ∀ n, (Instr.lookup 165 (.map (some m)) (.int .i64 l.f1) false).run Try.prog (w2.drewN n) = .ok (.int .i64 s) (w2.drewN n) := fun n => L1 _ (pw_below_drewN (Below.refl _ _) n)
      clear L1
      have d0 := HR2.out.2.blk
      have d1 := HBX.out.2
      have e0 : w2.cell? ⟨rb, 1, none⟩ = some (.map (some m)) := blk_cell d0 1
      have e1 : w2.cell? ⟨lb, 1, none⟩ = some (.int .i64 l.f1) := blk_cell d1 1
      have e2 : w2.cell? ⟨lb, 2, none⟩ = some (.int .i64 l.f2.f0) := blk_cell d1 2
      have e3 : w2.cell? ⟨lb, 3, none⟩ = some (.int .i64 l.f2.f1) := blk_cell d1 3
      clear d0 d1
      go_wp2
      refine wp_region_quiet_lit (by kernel_rfl) (by kernel_rfl) ?_
      repeat (go_big_quiet_step (first | (go_at_call 72; exact Calls.quiet_of_same (by have := within_same s (T0 + l.f2.f0) (T0 + l.f2.f1); rw [HIN.out] at this; exact this _))))
      apply wpQuiet_nil
      intro _ hw'
      obtain ⟨nq, hw''⟩ := hw'
      subst hw''
      clear D0 D1 D2 D3 L2 e0 e1 e2 e3
      go_wp2
      go_ret
      exact ⟨by rw [HS.out]; rfl, below_step HBX.out.1 (pw_below_drewN (Below.refl _ _) nq)⟩
end Go.Proofs.Ytgmglpnoppcnkaa
end
section
namespace Go.Proofs.Ytgmglpnoppcnkaa
open Go.RowKit Go.Proofs.YtgmglpnoppcnkaaW.PrintWords Go.Proofs.YtgmglpnoppcnkaaW.PrintLast Go.Proofs.YtgmglpnoppcnkaaW.PrintMore
set_option linter.unusedVariables false
set_option linter.unusedSimpArgs false
set_option maxRecDepth 100000
def minL : List Int → Int
  | [] => 0
  | a :: r => r.foldl (fun m y => if y < m then y else m) a
def maxiL : List Int → Int
  | [] => 0
  | a :: r => r.foldl (fun m y => if y > m then y else m) a
theorem minL_step (x : List Int) (k : Nat) (h0 : 0 < k) (hk : k < x.length) : minL (x.take (k + 1)) = if x[k] < minL (x.take k) then x[k] else minL (x.take k) := by
  cases x with
  | nil => simp at hk
  | cons a r =>
    obtain ⟨j, rfl⟩ : ∃ j, k = j + 1 := ⟨k - 1, by omega⟩
    have hj : j < r.length := by simpa using hk
    simp only [List.take_succ_cons, minL, List.getElem_cons_succ]
    rw [List.take_add_one, List.getElem?_eq_getElem hj, Option.toList_some, List.foldl_append]
    rfl
theorem maxiL_step (x : List Int) (k : Nat) (h0 : 0 < k) (hk : k < x.length) : maxiL (x.take (k + 1)) = if x[k] > maxiL (x.take k) then x[k] else maxiL (x.take k) := by
  cases x with
  | nil => simp at hk
  | cons a r =>
    obtain ⟨j, rfl⟩ : ∃ j, k = j + 1 := ⟨k - 1, by omega⟩
    have hj : j < r.length := by simpa using hk
    simp only [List.take_succ_cons, maxiL, List.getElem_cons_succ]
    rw [List.take_add_one, List.getElem?_eq_getElem hj, Option.toList_some, List.foldl_append]
    rfl
theorem minL_le (x : List Int) : ∀ y ∈ x, minL x ≤ y := by
  cases x with
  | nil => intro y h; simp at h
  | cons a r =>
    have H : ∀ (r : List Int) (a : Int), (r.foldl (fun m y => if y < m then y else m) a ≤ a) ∧ ∀ y ∈ r, r.foldl (fun m y => if y < m then y else m) a ≤ y := by
      intro r
      induction r with
      | nil => intro a; simp
      | cons b r ih =>
        intro a
        simp only [List.foldl_cons]
        have := ih (if b < a then b else a)
        refine ⟨by have := this.1; split at this <;> omega, fun y hy => ?_⟩
        rcases List.mem_cons.1 hy with rfl | hy
        · have := this.1; split at this <;> omega
        · exact this.2 y hy
    intro y hy
    rcases List.mem_cons.1 hy with rfl | hy
    · exact (H r _).1
    · exact (H r a).2 y hy
theorem maxiL_le (x : List Int) : ∀ y ∈ x, y ≤ maxiL x := by
  cases x with
  | nil => intro y h; simp at h
  | cons a r =>
    have H : ∀ (r : List Int) (a : Int), (a ≤ r.foldl (fun m y => if y > m then y else m) a) ∧ ∀ y ∈ r, y ≤ r.foldl (fun m y => if y > m then y else m) a := by
      intro r
      induction r with
      | nil => intro a; simp
      | cons b r ih =>
        intro a
        simp only [List.foldl_cons]
        have := ih (if b > a then b else a)
        refine ⟨by have := this.1; split at this <;> omega, fun y hy => ?_⟩
        rcases List.mem_cons.1 hy with rfl | hy
        · have := this.1; split at this <;> omega
        · exact this.2 y hy
    intro y hy
    rcases List.mem_cons.1 hy with rfl | hy
    · exact (H r _).1
    · exact (H r a).2 y hy
/-- All are one: the least is the greatest. -/
theorem min_eq_max (a : Int) (r : List Int) : minL (a :: r) = maxiL (a :: r) ↔ ∀ y ∈ r, y = a := by
  constructor
  · intro e y hy
    have h1 := minL_le (a :: r) y (List.mem_cons_of_mem _ hy)
    have h2 := maxiL_le (a :: r) y (List.mem_cons_of_mem _ hy)
    have h3 := minL_le (a :: r) a List.mem_cons_self
    have h4 := maxiL_le (a :: r) a List.mem_cons_self
    omega
  · intro h
    have H : ∀ (r : List Int), (∀ y ∈ r, y = a) → r.foldl (fun m y => if y < m then y else m) a = a ∧ r.foldl (fun m y => if y > m then y else m) a = a := by
      intro r
      induction r with
      | nil => intro _; exact ⟨rfl, rfl⟩
      | cons b r ih =>
        intro h
        have hb := h b List.mem_cons_self
        subst hb
        simpa using ih (fun y hy => h y (List.mem_cons_of_mem _ hy))
    show r.foldl _ a = r.foldl _ a
    rw [(H r h).1, (H r h).2]
theorem ints_cells {w : World} {ad : Addr} {x : List Int} (h : IntsAt w (some ad) x) (k : Nat) (hk : k < x.length) : w.cell? (ad.add k) = some (.int .i64 x[k]) := by
  refine ints_news h k _ ?_
  simp [ints, hk]
set_option maxHeartbeats 2000000 in
theorem min_calls (ad : Addr) (c : Nat) (x : List Int) (w : World) (hx : IntsAt w (some ad) x) (h0 : 0 < x.length) :
    Calls Try.prog 77 #[.slice (some ad) x.length c] w fun e w' => e = .returned (.int .i64 (minL x)) ∧ w' = w := by
  have hbig := hx.2.1
  unfold maxLen at hbig
  obtain ⟨n, hn⟩ : ∃ n, n = x.length := ⟨_, rfl⟩
  have hc0 : w.cell? ad = some (.int .i64 (minL (x.take 1))) := by
    have := ints_cells hx 0 h0
    rw [show ad.add 0 = ad from rfl] at this
    cases x with
    | nil => simp at h0
    | cons a r => simpa [minL] using this
  have HX := Aside0.mk hx
  have HN := Aside0.mk hn
  rw [← hn] at h0 hbig ⊢
  clear hx hn
  go_enter Try.func77, Try.ntmps77
  go_wp2
  go_loopg [3, 4] n (fun g m i wr => ∃ k : Nat, 0 < k ∧ k ≤ n ∧ n - k ≤ g ∧ i = .int .i64 k ∧ m = .int .i64 (minL (x.take k)) ∧ wr = w)
  case atStart => exact ⟨1, Nat.one_pos, h0, by omega, rfl, rfl, rfl⟩
  case round =>
    obtain ⟨k, hk0, hk, hg, rfl, rfl, rfl⟩ := hrel
    by_cases hlt : k < n
    · have hkx : k < x.length := by rw [← HN.out]; exact hlt
      have ck : wr.cell? (ad.add k) = some (.int .i64 x[k]) := ints_cells HX.out k hkx
      have S : Aside0 (minL (x.take (k + 1)) = if x[k] < minL (x.take k) then x[k] else minL (x.take k)) := ⟨minL_step x k hk0 hkx⟩
      obtain ⟨xk, hxk⟩ : ∃ xk, xk = x[k] := ⟨_, rfl⟩
      rw [← hxk] at ck S
      clear hc0 hxk
      obtain ⟨mv, hmv⟩ : ∃ mv, mv = minL (x.take k) := ⟨_, rfl⟩
      rw [← hmv] at S ⊢
      by_cases hb : xk < mv
      · have HV := Aside0.mk (S.out.trans (if_pos hb))
        clear hmv S
        go_wp2
        go_roundg (n - (k + 1))
        case measure => omega
        case rel => exact ⟨k + 1, Nat.succ_pos k, by omega, Nat.le_refl _, by go_num, by rw [HV.out], rfl⟩
      · have HV := Aside0.mk (S.out.trans (if_neg hb))
        clear hmv S
        go_wp2
        go_roundg (n - (k + 1))
        case measure => omega
        case rel => exact ⟨k + 1, Nat.succ_pos k, by omega, Nat.le_refl _, by go_num, by rw [HV.out], rfl⟩
    · have : k = n := by omega
      subst this
      clear hc0
      go_wp2
      go_ret
      exact ⟨by rw [HN.out, List.take_length]; rfl, rfl⟩
set_option maxHeartbeats 2000000 in
theorem max_calls (ad : Addr) (c : Nat) (x : List Int) (w : World) (hx : IntsAt w (some ad) x) (h0 : 0 < x.length) :
    Calls Try.prog 78 #[.slice (some ad) x.length c] w fun e w' => e = .returned (.int .i64 (maxiL x)) ∧ w' = w := by
  have hbig := hx.2.1
  unfold maxLen at hbig
  obtain ⟨n, hn⟩ : ∃ n, n = x.length := ⟨_, rfl⟩
  have hc0 : w.cell? ad = some (.int .i64 (maxiL (x.take 1))) := by
    have := ints_cells hx 0 h0
    rw [show ad.add 0 = ad from rfl] at this
    cases x with
    | nil => simp at h0
    | cons a r => simpa [maxiL] using this
  have HX := Aside0.mk hx
  have HN := Aside0.mk hn
  rw [← hn] at h0 hbig ⊢
  clear hx hn
  go_enter Try.func78, Try.ntmps78
  go_wp2
  go_loopg [3, 4] n (fun g m i wr => ∃ k : Nat, 0 < k ∧ k ≤ n ∧ n - k ≤ g ∧ i = .int .i64 k ∧ m = .int .i64 (maxiL (x.take k)) ∧ wr = w)
  case atStart => exact ⟨1, Nat.one_pos, h0, by omega, rfl, rfl, rfl⟩
  case round =>
    obtain ⟨k, hk0, hk, hg, rfl, rfl, rfl⟩ := hrel
    by_cases hlt : k < n
    · have hkx : k < x.length := by rw [← HN.out]; exact hlt
      have ck : wr.cell? (ad.add k) = some (.int .i64 x[k]) := ints_cells HX.out k hkx
      have S : Aside0 (maxiL (x.take (k + 1)) = if x[k] > maxiL (x.take k) then x[k] else maxiL (x.take k)) := ⟨maxiL_step x k hk0 hkx⟩
      obtain ⟨xk, hxk⟩ : ∃ xk, xk = x[k] := ⟨_, rfl⟩
      rw [← hxk] at ck S
      clear hc0 hxk
      obtain ⟨mv, hmv⟩ : ∃ mv, mv = maxiL (x.take k) := ⟨_, rfl⟩
      rw [← hmv] at S ⊢
      by_cases hb : xk > mv
      · have HV := Aside0.mk (S.out.trans (if_pos hb))
        clear hmv S
        go_wp2
        go_roundg (n - (k + 1))
        case measure => omega
        case rel => exact ⟨k + 1, Nat.succ_pos k, by omega, Nat.le_refl _, by go_num, by rw [HV.out], rfl⟩
      · have HV := Aside0.mk (S.out.trans (if_neg hb))
        clear hmv S
        go_wp2
        go_roundg (n - (k + 1))
        case measure => omega
        case rel => exact ⟨k + 1, Nat.succ_pos k, by omega, Nat.le_refl _, by go_num, by rw [HV.out], rfl⟩
    · have : k = n := by omega
      subst this
      clear hc0
      go_wp2
      go_ret
      exact ⟨by rw [HN.out, List.take_length]; rfl, rfl⟩
end Go.Proofs.Ytgmglpnoppcnkaa
end
section
namespace Go.Proofs.Ytgmglpnoppcnkaa
open Go.RowKit Go.Proofs.YtgmglpnoppcnkaaW.PrintWords Go.Proofs.YtgmglpnoppcnkaaW.PrintLast Go.Proofs.YtgmglpnoppcnkaaW.PrintMore
set_option linter.unusedVariables false
set_option linter.unusedSimpArgs false
set_option maxRecDepth 100000
/-- The time of a node's receipt. -/
def tmOf (l : List Du) (k : Int) : Option Int := (l.find? (fun x => decide (x.f0 = k))).map (·.f1)
theorem tmOf_snoc (l : List Du) (x : Du) (h : tmOf l x.f0 = none) (k : Int) : tmOf (l ++ [x]) k = if k = x.f0 then some x.f1 else tmOf l k := by
  unfold tmOf at h ⊢
  rw [List.find?_append]
  simp only [Option.map_eq_none_iff] at h
  by_cases e : k = x.f0
  · subst e
    rw [h]
    simp
  · rw [if_neg e]
    have : decide (x.f0 = k) = false := by simpa using fun e2 => e e2.symm
    rw [List.find?_cons, this]
    simp
theorem tmOf_mem {l : List Du} {k t : Int} (h : tmOf l k = some t) : ∃ x ∈ l, x.f0 = k ∧ x.f1 = t := by
  unfold tmOf at h
  obtain ⟨x, hx, e⟩ := Option.map_eq_some_iff.1 h
  exact ⟨x, List.mem_of_find?_eq_some hx, by simpa using List.find?_some hx, e⟩
theorem mem_tmOf {l : List Du} {x : Du} (h : x ∈ l) : (tmOf l x.f0).isSome = true := by
  unfold tmOf
  rw [Option.isSome_map, List.find?_isSome]
  exact ⟨x, h, by simp⟩
/-- The error of receipts, behind some. -/
def rcErr (nn u : Int) : List Du → List Du → Int
  | _, [] => 0
  | done, x :: r => if 0 ≤ x.f0 ∧ x.f0 ≤ nn - 1 then (if (tmOf done x.f0).isSome then 5 else if 0 ≤ x.f1 ∧ x.f1 ≤ u then rcErr nn u (done ++ [x]) r else 3) else 4
theorem rcErr_step {nn u : Int} {l : List Du} {i : Nat} (hi : i < l.length) (h1 : 0 ≤ l[i].f0 ∧ l[i].f0 ≤ nn - 1) (h2 : tmOf (l.take i) l[i].f0 = none) (h3 : 0 ≤ l[i].f1 ∧ l[i].f1 ≤ u) :
    rcErr nn u (l.take i) (l.drop i) = rcErr nn u (l.take (i + 1)) (l.drop (i + 1)) := by
  rw [List.drop_eq_getElem_cons hi, rcErr, if_pos h1, h2, if_neg (by simp), if_pos h3, List.take_add_one, List.getElem?_eq_getElem hi]
  rfl
theorem rcErr_none {nn u : Int} {l : List Du} {i : Nat} (hi : i < l.length) (h1 : ¬ (0 ≤ l[i].f0 ∧ l[i].f0 ≤ nn - 1)) : rcErr nn u (l.take i) (l.drop i) = 4 := by
  rw [List.drop_eq_getElem_cons hi, rcErr, if_neg h1]
theorem rcErr_twice {nn u : Int} {l : List Du} {i : Nat} (hi : i < l.length) (h1 : 0 ≤ l[i].f0 ∧ l[i].f0 ≤ nn - 1) (h2 : (tmOf (l.take i) l[i].f0).isSome = true) : rcErr nn u (l.take i) (l.drop i) = 5 := by
  rw [List.drop_eq_getElem_cons hi, rcErr, if_pos h1, if_pos h2]
theorem rcErr_time {nn u : Int} {l : List Du} {i : Nat} (hi : i < l.length) (h1 : 0 ≤ l[i].f0 ∧ l[i].f0 ≤ nn - 1) (h2 : tmOf (l.take i) l[i].f0 = none) (h3 : ¬ (0 ≤ l[i].f1 ∧ l[i].f1 ≤ u)) : rcErr nn u (l.take i) (l.drop i) = 3 := by
  rw [List.drop_eq_getElem_cons hi, rcErr, if_pos h1, h2, if_neg (by simp), if_neg h3]
/-- The units of links that were silent. -/
def silU (tm : Int → Option Int) (sn u : Int) (ls : List Lk) : List Int := (ls.filter (fun l => decide (l.f1 ≠ sn) && silentB tm l u)).map (·.f3)
def noB : List Bool := List.replicate 20 false
def failB (us : List Int) : List Bool := setUs noB us
theorem failB_len (us : List Int) : (failB us).length = 20 := by unfold failB; rw [setUs_len]; rfl
theorem silU_snoc (tm : Int → Option Int) (sn u : Int) (ls : List Lk) (l : Lk) : silU tm sn u (ls ++ [l]) = if l.f1 ≠ sn ∧ silentB tm l u = true then silU tm sn u ls ++ [l.f3] else silU tm sn u ls := by
  unfold silU
  rw [List.filter_append, List.map_append]
  by_cases h : l.f1 ≠ sn ∧ silentB tm l u = true
  · rw [if_pos h]; simp [h.1, h.2]
  · rw [if_neg h]
    have : (decide (l.f1 ≠ sn) && silentB tm l u) = false := by
      rw [Bool.and_eq_false_iff]
      by_cases h1 : l.f1 ≠ sn
      · right
        cases hs : silentB tm l u
        · rfl
        · exact absurd ⟨h1, hs⟩ h
      · left; simpa using h1
    rw [List.filter_cons_of_neg (by rw [this]; simp)]
    simp
/-- The units that can have brought a receipt. -/
def brU (tm : Int → Option Int) (failed : List Bool) (k : Int) (ls : List Lk) : List Int := (ls.filter (fun l => decide (l.f1 = k) && broughtB tm failed l)).map (·.f3)
theorem brU_snoc (tm : Int → Option Int) (failed : List Bool) (k : Int) (ls : List Lk) (l : Lk) : brU tm failed k (ls ++ [l]) = if l.f1 = k ∧ broughtB tm failed l = true then brU tm failed k ls ++ [l.f3] else brU tm failed k ls := by
  unfold brU
  rw [List.filter_append, List.map_append]
  by_cases h : l.f1 = k ∧ broughtB tm failed l = true
  · rw [if_pos h]; simp [h.1, h.2]
  · rw [if_neg h]
    have : (decide (l.f1 = k) && broughtB tm failed l) = false := by
      rw [Bool.and_eq_false_iff]
      by_cases h1 : l.f1 = k
      · right
        cases hs : broughtB tm failed l
        · rfl
        · exact absurd ⟨h1, hs⟩ h
      · left; simpa using h1
    rw [List.filter_cons_of_neg (by rw [this]; simp)]
    simp
theorem brU_len (tm : Int → Option Int) (failed : List Bool) (k : Int) (ls : List Lk) : (brU tm failed k ls).length ≤ ls.length := by
  unfold brU
  rw [List.length_map]
  exact List.length_filter_le ..
theorem brU_mem {tm : Int → Option Int} {failed : List Bool} {k : Int} {ls : List Lk} {v : Int} (h : v ∈ brU tm failed k ls) : ∃ l ∈ ls, l.f3 = v := by
  unfold brU at h
  obtain ⟨l, hl, e⟩ := List.mem_map.1 h
  exact ⟨l, (List.mem_filter.1 hl).1, e⟩
theorem silU_mem {tm : Int → Option Int} {sn u : Int} {ls : List Lk} {v : Int} (h : v ∈ silU tm sn u ls) : ∃ l ∈ ls, l.f3 = v := by
  unfold silU at h
  obtain ⟨l, hl, e⟩ := List.mem_map.1 h
  exact ⟨l, (List.mem_filter.1 hl).1, e⟩
/-- The one unit of a list, if it is one, and a unit. -/
def onlyU : List Int → Option Int
  | [] => none
  | a :: r => if (∀ y ∈ r, y = a) ∧ 0 ≤ a then some a else none
/-- Which unit worked for sure, by a node's receipt. -/
def goodU (tm : Int → Option Int) (failed : List Bool) (sn : Int) (ls : List Lk) (k : Int) : Option Int := if k = sn then none else onlyU (brU tm failed k ls)
theorem setUs_get (us : List Int) (hu : ∀ u ∈ us, 0 ≤ u) : ∀ (s : List Bool) (j : Nat), j < s.length → (setUs s us).getD j false = (s.getD j false || decide ((j : Int) ∈ us)) := by
  induction us with
  | nil => intro s j hj; simp [setUs]
  | cons v r ih =>
    intro s j hj
    have hv := hu v List.mem_cons_self
    rw [show setUs s (v :: r) = setUs (s.set v.toNat true) r from rfl, ih (fun u h => hu u (List.mem_cons_of_mem _ h)) _ j (by simpa using hj)]
    simp only [List.getD_eq_getElem?_getD, List.getElem?_set]
    by_cases e : v.toNat = j
    · have e2 : (j : Int) = v := by omega
      subst e
      rw [if_pos rfl, if_pos hj]
      simp [e2]
    · have e2 : ¬ (j : Int) = v := by omega
      rw [if_neg e]
      simp [e2]
theorem setUs_same {us vs : List Int} (hu : ∀ u ∈ us, 0 ≤ u) (h : ∀ u, u ∈ us ↔ u ∈ vs) (s : List Bool) : setUs s us = setUs s vs := by
  refine List.ext_getElem (by rw [setUs_len, setUs_len]) fun j h1 h2 => ?_
  have hj : j < s.length := by rw [setUs_len] at h1; exact h1
  have e1 := setUs_get us hu s j hj
  have e2 := setUs_get vs (fun u hv => hu u ((h u).2 hv)) s j hj
  simp only [List.getD_eq_getElem?_getD, List.getElem?_eq_getElem h1, List.getElem?_eq_getElem h2, Option.getD_some] at e1 e2
  rw [e1, e2]
  simp [h]
section
variable (nn uu : Int) (ls : List Lk) (sn lo hi : Int) (l : List Du) (u : Int)
def dFail : List Bool := failB (silU (tmOf l) sn u ls)
def dWork : List Bool := setUs noB (l.filterMap (fun x => goodU (tmOf l) (dFail ls sn l u) sn ls x.f0))
/-- The error behind the receipts' own. -/
def runErr : Int :=
  match tmOf l sn with
  | none => 2
  | some b => if lo ≤ b ∧ b ≤ hi then (if ∀ v ∈ silU (tmOf l) sn u ls, 0 ≤ v then (if ∀ x ∈ l, x.f0 ≠ sn → brU (tmOf l) (dFail ls sn l u) x.f0 ls ≠ [] then 0 else 14) else 14) else 14
def diagE : Int :=
  if startE nn uu ls sn lo hi = 0 then (if 0 ≤ u ∧ u ≤ 1000000000 then (if rcErr nn u [] l = 0 then runErr ls sn lo hi l u else rcErr nn u [] l) else 3) else startE nn uu ls sn lo hi
end
end Go.Proofs.Ytgmglpnoppcnkaa
end
section
namespace Go.Proofs.Ytgmglpnoppcnkaa
open Go.RowKit
set_option linter.unusedVariables false
set_option linter.unusedSimpArgs false
def NL : List Lk := [⟨0, 1, ⟨10, 20⟩, 0, true⟩, ⟨0, 2, ⟨5, 50⟩, 1, true⟩, ⟨1, 3, ⟨10, 10⟩, 0, true⟩, ⟨2, 3, ⟨0, 30⟩, 2, true⟩, ⟨1, 2, ⟨1, 5⟩, -1, false⟩]
theorem N_f : PB.tidewalllaw08_N.f = some (4, 3, NL) := rfl
theorem S_f : PB.tidewalllaw08_S.f = some (0, 100, 100) := rfl
theorem fine_f : PB.tidewalllaw08_fine.f = some [1, 1, 1] := rfl
theorem N_start : startE 4 3 NL 0 100 100 = 0 := by decide +kernel
theorem N_ok : StOk 4 3 NL 0 100 100 := by
  obtain ⟨n, e, h⟩ := startE_ok N_start
  have : n = 4 := by omega
  subst this
  exact h
theorem N_valid (f : Int) (h0 : 0 ≤ f) (h3 : f ≤ 3) : validE 4 3 NL 0 100 100 [1, 1, 1] f = 0 := by
  unfold validE
  rw [if_pos N_start, if_pos (by decide), if_pos (by decide), if_pos ⟨h0, h3⟩]
def loN (s : List Bool) : List Int := iterL (ueLo s) 0 NL 4 (startL 0 100 4)
def hiN (s : List Bool) : List Int := iterL (ueHi s) 0 NL 4 (startL 0 100 4)
theorem loN_eq (s : List Bool) (h : stableB (ueLo s) 0 NL (loN s) = true) : loL 4 NL 0 100 s = loN s := leastL_iter (N_ok.lo s) 4 h
theorem hiN_eq (s : List Bool) (h : stableB (ueHi s) 0 NL (hiN s) = true) : leastL NL (ueHi s) 0 100 4 = hiN s := leastL_iter (N_ok.hi s) 4 h
def hiU (us : List Int) : List Int := hiN (setUs (looseB [1, 1, 1]) us)
theorem fine3 : fineL [1, 1, 1] = [0, 1, 2] := by decide +kernel
theorem cho0 : choicesL 0 (fineL [1, 1, 1]) = [[]] := by rw [fine3]; simp [choicesL, choFrom, chooseL_zero]
theorem cho1 : choicesL 1 (fineL [1, 1, 1]) = [[], [0], [1], [2]] := by rw [fine3]; simp [choicesL, choFrom, chooseL_zero, chooseL_nil, chooseL_cons]
theorem cho2 : choicesL 2 (fineL [1, 1, 1]) = [[], [0], [1], [2], [0, 1], [0, 2], [1, 2]] := by rw [fine3]; simp [choicesL, choFrom, chooseL_zero, chooseL_nil, chooseL_cons]
theorem cho3 : choicesL 3 (fineL [1, 1, 1]) = [[], [0], [1], [2], [0, 1], [0, 2], [1, 2], [0, 1, 2]] := by rw [fine3]; simp [choicesL, choFrom, chooseL_zero, chooseL_nil, chooseL_cons]
theorem choices3 : (choicesL 3 (fineL [1, 1, 1])).all (fun us => stableB (ueHi (setUs (looseB [1, 1, 1]) us)) 0 NL (hiU us)) = true := by rw [cho3]; decide +kernel
theorem choFrom_sub (fine : List Int) : ∀ (n k j : Nat) (x : List Int), x ∈ choFrom fine k n → x ∈ choFrom fine k (n + j) := by
  intro n
  induction n with
  | zero => intro k j x h; cases h
  | succ n ih =>
    intro k j x h
    rw [show n + 1 + j = (n + j) + 1 by omega]
    simp only [choFrom, List.mem_append] at h ⊢
    rcases h with h | h
    · exact .inl h
    · exact .inr (ih (k + 1) j x h)
theorem choices_sub {f : Nat} (hf : f ≤ 3) {fine x : List Int} (h : x ∈ choicesL f fine) : x ∈ choicesL 3 fine := by
  unfold choicesL at h ⊢
  have := choFrom_sub fine (f + 1) 0 (3 - f) x h
  rw [show f + 1 + (3 - f) = 3 + 1 by omega] at this
  exact this
theorem hiU_eq {f : Nat} (hf : f ≤ 3) {us : List Int} (h : us ∈ choicesL f (fineL [1, 1, 1])) : hiL 4 NL 0 100 [1, 1, 1] us = hiU us :=
  hiN_eq _ ((List.all_eq_true.1 choices3) us (choices_sub hf h))
theorem hiU_nil : hiL 4 NL 0 100 [1, 1, 1] [] = hiU [] := hiU_eq (f := 0) (by omega) (by rw [cho0]; simp)
theorem foldl_congr_mem {α β : Type} (f g : β → α → β) : ∀ (l : List α) (b : β), (∀ x ∈ l, ∀ b, f b x = g b x) → l.foldl f b = l.foldl g b := by
  intro l
  induction l with
  | nil => intro b _; rfl
  | cons x r ih => intro b h; rw [List.foldl_cons, List.foldl_cons, h x List.mem_cons_self]; exact ih _ (fun y hy => h y (List.mem_cons_of_mem _ hy))
theorem find_congr_mem {α : Type} (p q : α → Bool) : ∀ (l : List α), (∀ x ∈ l, p x = q x) → l.find? p = l.find? q := by
  intro l
  induction l with
  | nil => intro _; rfl
  | cons x r ih => intro h; rw [List.find?_cons, List.find?_cons, h x List.mem_cons_self, ih (fun y hy => h y (List.mem_cons_of_mem _ hy))]
theorem worst_N {f : Nat} (hf : f ≤ 3) : worstS 4 NL 0 100 100 [1, 1, 1] f = zipS (loN (goneB [1, 1, 1])) ((choicesL f (fineL [1, 1, 1])).foldl (fun o us => maxL o (hiU us)) (hiU [])) := by
  unfold worstS worstOf
  rw [loN_eq _ (by decide +kernel), hiU_nil, foldl_congr_mem _ (fun o us => maxL o (hiU us)) _ _ (fun us hus o => by rw [hiU_eq hf hus])]
theorem blame_N {f : Nat} (hf : f ≤ 3) (d : Du) : blameL 4 NL 0 100 [1, 1, 1] f d = (choicesL f (fineL [1, 1, 1])).find? (fun us => decide (d.f1 < (hiU us).getD d.f0.toNat 0)) := by
  unfold blameL
  refine find_congr_mem _ _ _ fun us hus => ?_
  unfold lateB
  rw [hiU_eq hf hus]
theorem worst_N1 : worstS 4 NL 0 100 100 [1, 1, 1] 1 = [⟨100, 100⟩, ⟨110, NV⟩, ⟨105, NV⟩, ⟨105, 180⟩] := by
  have ha : loN (goneB [1, 1, 1]) = [100, 110, 105, 105] := by decide +kernel
  have hb : [[], [0], [1], [2]].foldl (fun o us => maxL o (hiU us)) (hiU []) = [100, NV, NV, 180] := by decide +kernel
  rw [worst_N (by omega), cho1, ha, hb]
  rfl
theorem blame_N2 : blameL 4 NL 0 100 [1, 1, 1] 2 ⟨3, 180⟩ = some [0, 1] := by
  rw [blame_N (by omega), cho2]
  decide +kernel
def RL : List Du := [⟨0, 100⟩, ⟨2, 130⟩, ⟨3, 140⟩]
theorem diag_N : diagE 4 3 NL 0 100 100 RL 200 = 0 := by decide +kernel
theorem diag_N1 : listB (dWork NL 0 RL 200) = [1, 2] := by decide +kernel
theorem diag_N2 : listB (dFail NL 0 RL 200) = [0] := by decide +kernel
end Go.Proofs.Ytgmglpnoppcnkaa
end
