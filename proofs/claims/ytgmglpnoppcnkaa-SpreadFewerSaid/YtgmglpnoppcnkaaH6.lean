/- least: the least times of all nodes. -/
import Derived.Test.YtgmglpnoppcnkaaH4
import Derived.Test.YtgmglpnoppcnkaaH5
import Derived.Test.YtgmglpnoppcnkaaV4
import Derived.Deep.LoopGhost
namespace Go.Proofs.Ytgmglpnoppcnkaa
open Go.RowKit Go.Proofs.YtgmglpnoppcnkaaW.PrintWords Go.Proofs.YtgmglpnoppcnkaaW.PrintLast Go.Proofs.YtgmglpnoppcnkaaW.PrintMore
set_option linter.unusedVariables false
set_option linter.unusedSimpArgs false
set_option maxRecDepth 100000

/-- The closure: how long a link takes, and whether it can be used. -/
structure UsedAt (w : World) (uf : FuncId) (cap : Value) (ls : List Lk) (ud : Lk → Int) (ub : Lk → Bool) : Prop where
  cf : ∀ args W, (callFunc uf args).run Try.prog W = .ok (.enter uf args) W
  calls : ∀ W, Below w.heap.size w W → ∀ l ∈ ls, Calls Try.prog uf #[.agg (linkCs l), cap] W fun e w' => e = .returned (.tuple #[.int .i64 (ud l), .bool (ub l)]) ∧ Below W.heap.size W w'
def ueOf (ud : Lk → Int) (ub : Lk → Bool) (l : Lk) : Option Int := if ub l then some (ud l) else none
def intsCs (o : List Int) : Array Value := (o.map (Value.int .i64)).toArray
theorem WebAt.below {w W : World} {B wp : Nat} {nn uu : Int} {sv : Value} {sn lo hi : Int} {ls : List Lk} (h : WebAt w B wp nn uu sv sn lo hi ls) (hb : Below w.heap.size w W) : WebAt W B wp nn uu sv sn lo hi ls := by
  obtain ⟨h0, m, L, c, h1, h2, h3⟩ := h
  exact ⟨h0, m, L, c, blk_below h1 hb, h2, h3.below hb⟩

/-- The search's memory: the heap at gh, the times at g. -/
structure LInv (w : World) (gh g : Nat) (o : List Int) (sv : Value) (h : List Vis) (wr : World) : Prop where
  kp : Below w.heap.size w wr
  ghge : w.heap.size ≤ gh
  gge : w.heap.size ≤ g
  hp : HeapAt wr gh w.heap.size sv h
  out : wr.heap[g]? = some (.cells (intsCs o) 3 (0, 0))
section
variable {w wr W : World} {gh g : Nat} {o : List Int} {sv : Value} {h : List Vis}
theorem LInv.keep (H : LInv w gh g o sv h wr) (hb : Below wr.heap.size wr W) : LInv w gh g o sv h W :=
  ⟨below_step H.kp hb, H.ghge, H.gge, H.hp.kp (Kp.of_below hb (fun _ => False)) (fun h => h) (fun _ _ h => h), blk_below H.out hb⟩
theorem LInv.ne (H : LInv w gh g o sv h wr) : g ≠ gh := fun e => by
  have a := H.out; have b := H.hp.blk; rw [e, b] at a; simp at a
theorem LInv.ne2 (H : LInv w gh g o sv h wr) : sv.ownBlock ≠ some g := own_ne H.out H.hp.own (by decide)
/-- Behind put. -/
theorem LInv.put {l' : List Vis} (H : LInv w gh g o sv h wr) (P : PutPost wr gh w.heap.size sv l' W) : ∃ sv', LInv w gh g o sv' l' W ∧ (∀ k, sv'.ownBlock = some k → sv.ownBlock = some k ∨ wr.heap.size ≤ k) ∧ Kp wr W (fun i => i = gh ∨ some i = sv.ownBlock) := by
  obtain ⟨sv', h1, h2, h3⟩ := P
  refine ⟨sv', ⟨?_, H.ghge, H.gge, h1, ?_⟩, h3, h2⟩
  · refine H.kp.trans (h2.below H.kp.size ?_)
    rintro i (rfl | e)
    · exact H.ghge
    · exact own_base H.hp.own i e.symm
  · exact h2.blk H.out (fun e => e.elim H.ne (fun e => H.ne2 e.symm))
/-- Behind take. -/
theorem LInv.take {l' : List Vis} (H : LInv w gh g o sv h wr) (P : TakePost wr gh w.heap.size sv l' W) : ∃ sv', LInv w gh g o sv' l' W ∧ sv'.ownBlock = sv.ownBlock := by
  obtain ⟨sv', h1, h2, h3⟩ := P
  refine ⟨sv', ⟨?_, H.ghge, H.gge, h1, ?_⟩, h3⟩
  · refine H.kp.trans (h2.below H.kp.size ?_)
    rintro i (rfl | e)
    · exact H.ghge
    · exact own_base H.hp.own i e.symm
  · exact h2.blk H.out (fun e => e.elim H.ne (fun e => H.ne2 e.symm))
/-- A time is written. -/
theorem LInv.store (H : LInv w gh g o sv h wr) (i : Nat) (t : Int) : LInv w gh g (o.set i t) sv h (wr.setCell ⟨g, i, none⟩ (.int .i64 t)) := by
  refine ⟨?_, H.ghge, H.gge, H.hp.kp (Kp.setCell wr g i _) (fun e => H.ne e.symm) (fun k hk e => H.ne2 (by rw [hk, e])), ?_⟩
  · exact H.kp.trans ((Kp.setCell wr g i (.int .i64 t)).below H.kp.size (fun j e => by rw [e]; exact H.gge))
  · have := blk_set H.out i (.int .i64 t)
    rw [this]
    simp [intsCs, List.map_set]
end
theorem own_slice {w : World} {B e size n : Nat} {v : Value} {xs : List Value} (h : w.ownsRow B e size v n xs) : ∃ A cap, v = .slice A n cap := by
  rcases h.2 with ⟨rfl, rfl⟩ | ⟨g, cap, cur, rfl, _⟩
  · exact ⟨none, 0, rfl⟩
  · exact ⟨_, cap, rfl⟩
theorem own_slice_pos {w : World} {B e size n : Nat} {v : Value} {xs : List Value} (h : w.ownsRow B e size v n xs) (h0 : 0 < n) : ∃ g cap, v = .slice (some ⟨g, 0, none⟩) n cap := by
  rcases h.2 with ⟨rfl, rfl⟩ | ⟨g, cap, cur, rfl, _⟩
  · omega
  · exact ⟨_, cap, rfl⟩

set_option maxHeartbeats 4000000 in
theorem least_calls (wp B nn : Nat) (uu : Int) (sv0 : Value) (sn lo hi : Int) (ls : List Lk) (b : Int) (uf : FuncId) (cap : Value) (ud : Lk → Int) (ub : Lk → Bool) (w : World)
    (hw : WebAt w B wp nn uu sv0 sn lo hi ls) (hE : EOk ls (ueOf ud ub) sn b nn) (h1 : 1 ≤ nn) (hL : ls.length ≤ 256) (hU : UsedAt w uf cap ls ud ub) :
    Calls Try.prog 104 #[.pointer (some ⟨wp, 0, none⟩), .int .i64 b, .func (.func uf) #[] #[cap]] w fun e w' => ∃ g o, e = .returned (.slice (some ⟨g, 0, none⟩) nn nn) ∧ w.heap.size ≤ g ∧ w'.heap[g]? = some (.cells (intsCs o) 3 (0, 0)) ∧ LeastAt ls (ueOf ud ub) sn b nn o ∧ Below w.heap.size w w' := by
  have HW := Aside0.mk hw
  have HE := Aside0.mk hE
  have HLS := Aside0.mk hL
  have HU := Aside0.mk hU
  clear hw hE hL hU
  obtain ⟨hB, m, L, cl, hweb, hmB, hG⟩ := HW.out
  have HG := Aside0.mk hG
  have HWB := Aside0.mk hweb
  clear hG hB hmB
  have hn64 := HE.out.n64
  have hA : Below w.heap.size w (w.alloc (.cells #[.int .i64 1099511627776] 3)) := below_alloc (Below.refl _ _) _
  have c0 : (w.alloc (.cells #[.int .i64 1099511627776] 3)).cell? ⟨wp, 0, none⟩ = some (.int .i64 nn) := blk_cell (blk_below hweb hA) 0
  have HA := Aside0.mk (And.intro hA (blk_cell (blk_new w (.cells #[.int .i64 1099511627776] 3 (0, 0))) 0))
  clear hweb hA
  go_enter Try.func104, Try.ntmps104
  go_wp2_with (first | (go_at_call 64; refine (repeat_calls 1099511627776 nn _ _ h1 hn64 HA.out.2).mono ?_; rintro e w1 ⟨⟨g, rfl, hg, hgb⟩, hb1⟩; clear c0) | ((with_reducible refine gate_dst (N := 22) rfl ?_); refine hold ?_))
  have hk1 : Below w.heap.size w w1 := below_step HA.out.1 hb1
  have hgo : w1.heap[g]? = some (.cells (intsCs (List.replicate nn NV)) 3 (0, 0)) := by rw [hgb]; simp [intsCs, NV]
  refine box_event rfl (N := 22) rfl (cs := #[.slice none 0 0, .func (.func 119) #[] #[]]) (t := 218) (by go_simp) ?_
  intro gh hgh w2 hb2 hB2
  have HI0 : Aside0 (LInv w gh g (List.replicate nn NV) (.slice none 0 0) [] w2) := by
    refine ⟨below_step hk1 hB2, by have := hk1.size; omega, by have := HA.out.1.size; omega, ⟨hb2, ⟨rfl, .inl ⟨rfl, rfl⟩⟩⟩, blk_below hgo hB2⟩
  have c1 : w2.cell? ⟨wp, 3, none⟩ = some (.int .i64 sn) := blk_cell (blk_below HWB.out HI0.out.kp) 3
  clear hk1 hgo hb2 hB2 hgh hb1 hgb hg HA
  go_wp2_with (first | (go_at_call 120; refine (put_calls gh w.heap.size (.slice none 0 0) [] sn b _ HI0.out.hp HI0.out.kp.size (by simp)).mono ?_; rintro e w3 ⟨rfl, hp⟩; clear c1))
  obtain ⟨sv1, hI1, -, -⟩ := HI0.out.put hp
  rw [show siftUp ([] ++ [(sn, b)]) ([] : List Vis).length = [(sn, b)] from siftUp_stop [(sn, b)] 0 0 rfl (.inl rfl)] at hI1
  have HI1 := Aside0.mk hI1
  clear HI0 hp hI1
  go_loopg [9] (nn * (ls.length + 2) + 1) (fun k s9 wr => ∃ o h sv, Aside0 (k = (nn - setd o) * (ls.length + 2) + h.length ∧ (nn - setd o) * (ls.length + 2) + h.length ≤ nn * (ls.length + 2) + 1) ∧ Aside0 (LInv w gh g o sv h wr) ∧ Aside0 (DInv ls (ueOf ud ub) sn b nn o h))
  case atStart => exact ⟨_, _, sv1, ⟨by rw [setd_rep]; simp, by rw [setd_rep]; simp⟩, HI1, ⟨DInv.init HE.out⟩⟩
  case round =>
    obtain ⟨o, h, sv, HK, HI, HD⟩ := hrel
    clear HI1
    by_cases h0 : h.length = 0
    · have hnil : h = [] := List.length_eq_zero_iff.1 h0
      obtain ⟨A, cap', hsv⟩ := own_slice HI.out.hp.own
      have c1 : wr.cell? ⟨gh, 0, none⟩ = some sv := blk_cell HI.out.hp.blk 0
      rw [hsv, h0] at c1
      have HH := Aside0.mk (And.intro hnil hsv)
      clear hnil hsv h0
      go_wp2
      go_ret
      have hd := HD.out
      rw [HH.out.1] at hd
      exact ⟨g, o, rfl, HI.out.gge, HI.out.out, hd.done HE.out, HI.out.kp⟩
    · have h0' : 0 < h.length := by omega
      clear h0
      obtain ⟨n, hn⟩ : ∃ n, h.length = n + 1 := ⟨h.length - 1, by omega⟩
      obtain ⟨gr, cp, hsv⟩ := own_slice_pos HI.out.hp.own h0'
      rw [hn] at hsv
      subst hsv
      have c1 : wr.cell? ⟨gh, 0, none⟩ = some (.slice (some ⟨gr, 0, none⟩) (n + 1) cp) := blk_cell HI.out.hp.blk 0
      have hn2 : n ≤ 200000 := by
        have hk := HK.out.2
        have hl := HLS.out
        have h3 : nn * (ls.length + 2) ≤ 64 * 258 := Nat.mul_le_mul hn64 (by omega)
        omega
      have hdec : decide ((0 : Int) < ((n + 1 : Nat) : Int)) = true := by simp
      have HN := Aside0.mk (And.intro hn h0')
      clear hn h0'
      go_wp2_with (first | (go_at_call 121; refine (take_calls gh w.heap.size gr n cp h _ HN.out.1 hn2 HI.out.kp.size HI.out.hp).mono ?_; rintro e w4 ⟨rfl, hp⟩; clear c1; obtain ⟨sv2, hI2, hso⟩ := HI.out.take hp; have HI2 := Aside0.mk hI2; have HSO := Aside0.mk hso; clear hI2 hso hp))
      have hmem := HD.out.walk _ (vat_mem h HN.out.2)
      obtain ⟨v, hv⟩ : ∃ v : Nat, (vat h 0).1 = (v : Int) := ⟨(vat h 0).1.toNat, by have := hmem.1.1; omega⟩
      obtain ⟨t, ht⟩ : ∃ t, (vat h 0).2 = t := ⟨_, rfl⟩
      have hvn : v < nn := by have := hmem.1.2; omega
      have ht0 := HD.out.pos _ (vat_mem h HN.out.2)
      have ht1 := HD.out.hb _ (vat_mem h HN.out.2)
      have hsl := setd_le o
      rw [HD.out.len] at hsl
      rw [ht] at ht0 ht1
      have ht2 : t ≤ 65000000000 := by omega
      rw [hv, ht]
      have HV := Aside0.mk (And.intro hv ht)
      clear hmem hv ht ht1 hsl
      obtain ⟨w5, hw5⟩ : ∃ w5, w5 = w4.alloc (.cells #[.int .i64 (v : Int), .int .i64 t] 214) := ⟨_, rfl⟩
      obtain ⟨bv, hbv⟩ : ∃ bv, bv = w4.heap.size := ⟨_, rfl⟩
      rw [← hw5, ← hbv]
      have hb5 : Below w4.heap.size w4 w5 := by rw [hw5]; exact below_alloc (Below.refl _ _) _
      have hbx : w5.heap[bv]? = some (.cells #[.int .i64 (v : Int), .int .i64 t] 214 (0, 0)) := by rw [hw5, hbv]; exact blk_new w4 _
      have HI3 := Aside0.mk (HI2.out.keep hb5)
      have hne : ∀ k, sv2.ownBlock = some k → k ≠ bv := fun k hk e => by have := own_lt HI2.out.hp.own k hk; omega
      have HBX := Aside0.mk (And.intro hbx hne)
      clear HI2 hb5 hbx hne hw5 hbv
      clear w4
      obtain ⟨x, hx⟩ : ∃ x, oat o v = x := ⟨_, rfl⟩
      have C : ∀ W, Below w5.heap.size w5 W → W.cell? ⟨bv, 0, none⟩ = some (.int .i64 (v : Int)) ∧ W.cell? ⟨bv, 1, none⟩ = some (.int .i64 t) ∧ W.cell? ⟨g, v, none⟩ = some (.int .i64 x) := fun W hb => by
        refine ⟨blk_cell (blk_below HBX.out.1 hb) 0, blk_cell (blk_below HBX.out.1 hb) 1, ?_⟩
        rw [blk_cell (blk_below HI3.out.out hb) v]
        have hvl : v < o.length := by rw [HD.out.len]; exact hvn
        rw [← hx]
        simp [intsCs, oat, List.getElem?_eq_getElem hvl, List.getD_eq_getElem?_getD]
      have C0 := fun W hb => (C W hb).1
      have C1 := fun W hb => (C W hb).2.1
      have C2 := fun W hb => (C W hb).2.2
      have HX := Aside0.mk hx
      clear C hx
      by_cases hle : x ≤ t
      · have hd1 : decide (x ≤ t) = true := by simpa using hle
        have HLE := Aside0.mk hle
        clear hle
        go_wp2
        go_region_held3 (fun W => Below w5.heap.size w5 W) (first | exact below_drew1 (Below.refl _ _) | exact below_step (by assumption) (by assumption)) (fail)
        rename_i hHeld
        have HI4 := Aside0.mk (HI3.out.keep hHeld)
        clear hHeld C0 C1 C2 hd1 HI HI3 HSO
        go_wp2
        have hlt := (take_all h HD.out.ok HN.out.2).2.2
        have hk1 := HK.out
        go_roundg ((nn - setd o) * (ls.length + 2) + (takeRest h).length)
        case measure => rw [hk1.1]; omega
        case rel =>
          refine ⟨o, takeRest h, sv2, ⟨rfl, by omega⟩, HI4, ⟨HD.out.skip HE.out HN.out.2 ?_⟩⟩
          rw [HV.out.1, HV.out.2, HX.out]
          exact HLE.out
      · have hd1 : decide (x ≤ t) = false := by simpa using hle
        have hset := HD.out.settle HE.out HN.out.2 (by rw [HV.out.1, HV.out.2, HX.out]; omega)
        rw [HV.out.1, HV.out.2] at hset
        have HSET := Aside0.mk hset
        clear hle hset
        go_wp2
        go_region_held3 (fun W => Below w5.heap.size w5 W) (first | exact below_drew1 (Below.refl _ _) | exact below_step (by assumption) (by assumption)) (fail)
        rename_i hHeld
        have f0 : w5.drew.frozen? ⟨g, v, none⟩ = false := blk_frozen (HI3.out.keep hHeld).out v
        have D0 := C0 _ hHeld
        have D1 := C1 _ hHeld
        have D2 := C2 _ hHeld
        clear hHeld C0 C1 C2 HI HSO
        go_wp2
        obtain ⟨w6, hw6⟩ : ∃ w6, w6 = (w5.setCell ⟨g, v, none⟩ (.int .i64 t)).drew := ⟨_, rfl⟩
        rw [← hw6]
        have HI6 : Aside0 (LInv w gh g (o.set v t) sv2 (takeRest h) w6) := ⟨by rw [hw6]; exact (HI3.out.store v t).keep (below_drew1 (Below.refl _ _))⟩
        have HB6 : Aside0 (w6.heap[bv]? = some (.cells #[.int .i64 (v : Int), .int .i64 t] 214 (0, 0)) ∧ ∀ k, sv2.ownBlock = some k → k ≠ bv) := by
          refine ⟨?_, HBX.out.2⟩
          rw [hw6]
          refine blk_drew (blk_far HBX.out.1 (fun e => ?_) _)
          have a := HBX.out.1; have b := HI3.out.out; rw [e, b] at a; simp at a
        clear f0 D0 D1 D2 hw6 HI3 HBX
        clear w5
        have HG6 := HG.out.below HI6.out.kp
        obtain ⟨nG, hnG⟩ : ∃ nG, nG = (grp ls v).length := ⟨_, rfl⟩
        obtain ⟨A, cg, hrv⟩ := own_slice (HG6.own v)
        rw [← hnG] at hrv
        have hnG2 : nG ≤ 256 := by have := grp_len ls v; have := HLS.out; omega
        have CW : ∀ W, Below w6.heap.size w6 W → W.cell? ⟨wp, 6, none⟩ = some (.map (some m)) := fun W hb => blk_cell (blk_below HWB.out (below_step HI6.out.kp hb)) 6
        have CB : ∀ W, Below w6.heap.size w6 W → W.cell? ⟨bv, 0, none⟩ = some (.int .i64 (v : Int)) := fun W hb => blk_cell (blk_below HB6.out.1 hb) 0
        have hLD : (Instr.lookup 196 (.map (some m)) (.int .i64 (v : Int)) false).run Try.prog w6.drew = .ok (.slice A nG cg) w6.drew := by
          rw [← hrv]; exact run_look _ 196 30 hu196 _ (zero30 _) m L cl (HG6.below (below_drew1 (Below.refl _ _))).map v
        have HNG := Aside0.mk (And.intro hnG hrv)
        clear hnG hrv HG6
        go_wp2
        go_region_held3 (fun W => Below w6.heap.size w6 W) (first | exact below_drew1 (Below.refl _ _) | exact below_step (by assumption) (by assumption)) (fail)
        rename_i hHeld
        have HI7 := Aside0.mk (HI6.out.keep hHeld)
        have HB7 := Aside0.mk (And.intro (blk_below HB6.out.1 hHeld) HB6.out.2)
        clear hHeld hLD CW CB HI6 HB6
        go_wp2
        go_loopw [62] (fun s62 wi => ∃ (j : Nat) (sv3 : Value), s62 = .int .i64 j ∧ j ≤ nG ∧ Aside0 (LInv w gh g (o.set v t) sv3 (pushAll (ueOf ud ub) t (takeRest h) ((grp ls v).take j)) wi) ∧ Aside0 (wi.heap[bv]? = some (.cells #[.int .i64 (v : Int), .int .i64 t] 214 (0, 0)) ∧ ∀ k, sv3.ownBlock = some k → k ≠ bv)) (fun s62 _ => nG - (intOf s62).toNat)
        case atStart => exact ⟨0, sv2, rfl, Nat.zero_le _, HI7, HB7⟩
        case round =>
          obtain ⟨j, sv3, rfl, hj, HJ, HBJ⟩ := hrel
          clear HI7 HB7
          by_cases hgo : j < nG
          · have hjl : j < (grp ls v).length := by rw [← HNG.out.1]; exact hgo
            obtain ⟨l, hl⟩ : ∃ l, l = (grp ls v)[j] := ⟨_, rfl⟩
            have hlm : l ∈ ls := ((grp_mem ls v l).1 (by rw [hl]; exact List.getElem_mem hjl)).1
            have hown := (HG.out.below HJ.out.kp).own v
            obtain ⟨gq, cq, hq⟩ := own_slice_pos hown (by omega)
            rw [HNG.out.2] at hq
            simp only [Value.slice.injEq] at hq
            obtain ⟨rfl, -, -⟩ := hq
            rw [HNG.out.2, ← HNG.out.1] at hown
            have hcell : ∀ i, i < 6 → wr.cell? ⟨gq, j * 6 + i, none⟩ = (linkCs l).toList[i]? := fun i hi => by
              rw [hown.cellAt (j * 6 + i) (by omega), hl]
              exact linksCs_get _ j i hjl hi
            have e0 : wr.cell? ⟨gq, j * 6, none⟩ = some (.int .i64 l.f0) := hcell 0 (by omega)
            have e1 : wr.cell? ⟨gq, j * 6 + 1, none⟩ = some (.int .i64 l.f1) := hcell 1 (by omega)
            have e2 : wr.cell? ⟨gq, j * 6 + 2, none⟩ = some (.int .i64 l.f2.f0) := hcell 2 (by omega)
            have e3 : wr.cell? ⟨gq, j * 6 + 3, none⟩ = some (.int .i64 l.f2.f1) := hcell 3 (by omega)
            have e4 : wr.cell? ⟨gq, j * 6 + 4, none⟩ = some (.int .i64 l.f3) := hcell 4 (by omega)
            have e5 : wr.cell? ⟨gq, j * 6 + 5, none⟩ = some (.bool l.f4) := hcell 5 (by omega)
            have HLL := Aside0.mk (And.intro hl hlm)
            have hdg : decide ((j : Int) < (nG : Int)) = true := by simp; exact hgo
            have hwj : IntKind.i64.wrap ((j : Int) + 1) = (j : Int) + 1 := by rw [i64_w]; unfold wrap64; omega
            have hcf := HU.out.cf
            obtain ⟨lb, hlb⟩ : ∃ lb, lb = wr.heap.size := ⟨_, rfl⟩
            have hA : Below wr.heap.size wr (wr.alloc (.cells (linkCs l) 88)) := below_alloc (Below.refl _ _) _
            have hlbx : (wr.alloc (.cells (linkCs l) 88)).heap[lb]? = some (.cells (linkCs l) 88 (0, 0)) := by rw [hlb]; exact blk_new wr _
            have HLB := Aside0.mk hlb
            have HA := Aside0.mk (And.intro hA hlbx)
            obtain ⟨bb, hbb⟩ : ∃ bb, ub l = bb := ⟨_, rfl⟩
            have HCL : Aside0 (∀ W, Below w.heap.size w W → Calls Try.prog uf #[.agg (linkCs l), cap] W fun e w' => e = .returned (.tuple #[.int .i64 (ud l), .bool bb]) ∧ Below W.heap.size W w') := ⟨fun W hW => by rw [← hbb]; exact HU.out.calls W hW l hlm⟩
            have HBB := Aside0.mk hbb
            clear hl hlm hown hcell hA hlbx hbb hlb
            cases bb
            · go_wp2_with (first | (refine (HCL.out _ (below_step HJ.out.kp HA.out.1)).mono ?_; rintro e w7 ⟨rfl, hb⟩; have hb7 := below_step HA.out.1 hb; have HJ7 := Aside0.mk (HJ.out.keep hb7); have HBJ7 := Aside0.mk (And.intro (blk_below HBJ.out.1 hb7) HBJ.out.2); clear hb hb7))
              clear e0 e1 e2 e3 e4 e5
              go_roundw
              case rel =>
                refine ⟨j + 1, sv3, by go_num, by omega, ?_, HBJ7⟩
                rw [List.take_add_one, List.getElem?_eq_getElem hjl, Option.toList_some, ← HLL.out.1, pushAll_snoc]
                have : ueOf ud ub l = none := by unfold ueOf; rw [HBB.out]; rfl
                rw [this]
                exact HJ7
              case measure => simp [intOf]; omega
            · have hue : ueOf ud ub l = some (ud l) := by unfold ueOf; rw [HBB.out]; rfl
              have hdb := HE.out.d l HLL.out.2 _ hue
              have hwt : IntKind.i64.wrap (t + ud l) = t + ud l := by rw [i64_w]; unfold wrap64; omega
              have HUE := Aside0.mk hue
              have hlen : (pushAll (ueOf ud ub) t (takeRest h) ((grp ls v).take j)).length ≤ 100000 := by
                have h1 := pushAll_len (ueOf ud ub) t ((grp ls v).take j) (takeRest h)
                have h2 := (take_all h HD.out.ok HN.out.2).2.2
                have h3 := HK.out.2
                have h4 : nn * (ls.length + 2) ≤ 64 * 258 := Nat.mul_le_mul hn64 (by have := HLS.out; omega)
                rw [List.length_take] at h1
                omega
              have HLEN := Aside0.mk hlen
              clear hue hdb hlen
              go_wp2_with (first | (refine (HCL.out _ (below_step HJ.out.kp HA.out.1)).mono ?_; rintro e w7 ⟨rfl, hb⟩; have hb7 := below_step HA.out.1 hb; have HJ7 := Aside0.mk (HJ.out.keep hb7); have HBJ7 := Aside0.mk (And.intro (blk_below HBJ.out.1 hb7) HBJ.out.2); have d0 : w7.cell? ⟨wr.heap.size, 1, none⟩ = some (.int .i64 l.f1) := (by rw [← HLB.out]; exact blk_cell (blk_below HA.out.2 hb) 1); have d1 : w7.cell? ⟨bv, 1, none⟩ = some (.int .i64 t) := blk_cell HBJ7.out.1 1; clear hb hb7 e0 e1 e2 e3 e4 e5) | (go_at_call 120; refine (put_calls gh w.heap.size sv3 (pushAll (ueOf ud ub) t (takeRest h) ((grp ls v).take j)) l.f1 (t + ud l) _ HJ7.out.hp HJ7.out.kp.size HLEN.out).mono ?_; rintro e w8 ⟨rfl, hp⟩; clear d0 d1))
              obtain ⟨sv4, hI8, hso8, hk8⟩ := HJ7.out.put hp
              have hbn : bv ≠ gh := fun e => by
                have a := HBJ7.out.1; have c := HJ7.out.hp.blk; rw [e, c] at a; simp at a
              have hb8 : w8.heap[bv]? = some (.cells #[.int .i64 (v : Int), .int .i64 t] 214 (0, 0)) := hk8.blk HBJ7.out.1 (fun e => e.elim hbn (fun e => HBJ7.out.2 bv e.symm rfl))
              have hn8 : ∀ k, sv4.ownBlock = some k → k ≠ bv := fun k hk e => by
                rcases hso8 k hk with h | h
                · exact HBJ7.out.2 k h e
                · have := blk_lt HBJ7.out.1; omega
              have HI8 := Aside0.mk hI8
              have HB8 := Aside0.mk (And.intro hb8 hn8)
              clear hI8 hso8 hk8 hbn hb8 hn8 hp
              go_roundw
              case rel =>
                refine ⟨j + 1, sv4, by go_num, by omega, ?_, HB8⟩
                rw [List.take_add_one, List.getElem?_eq_getElem hjl, Option.toList_some, ← HLL.out.1, pushAll_snoc, HUE.out]
                exact HI8
              case measure => simp [intOf]; omega
          · obtain rfl : j = nG := by omega
            clear hj hgo
            go_wp2
            have hs := HSET.out
            rw [Int.toNat_natCast] at hs
            have hlen := pushAll_len (ueOf ud ub) t (grp ls v) (takeRest h)
            have h2 := (take_all h HD.out.ok HN.out.2).2.2
            have h3 := HK.out
            have h4 := grp_len ls v
            obtain ⟨a, ha⟩ : ∃ a, nn - setd o = a + 1 := ⟨nn - setd o - 1, by omega⟩
            rw [ha, Nat.succ_mul] at h3
            have ha2 : nn - setd (o.set v t) = a := by rw [hs.2.1]; omega
            go_roundg (a * (ls.length + 2) + (pushAll (ueOf ud ub) t (takeRest h) (grp ls v)).length)
            case measure => rw [h3.1]; omega
            case rel =>
              refine ⟨o.set v t, pushAll (ueOf ud ub) t (takeRest h) (grp ls v), sv3, ⟨by rw [ha2], by rw [ha2]; omega⟩, ?_, ⟨hs.2.2.2⟩⟩
              have := HJ
              rw [HNG.out.1, List.take_length] at this
              exact this
end Go.Proofs.Ytgmglpnoppcnkaa
