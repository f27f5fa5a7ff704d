/- The heap's take: the first element is removed, the last one sifted down. -/
import Derived.Test.YtgmglpnoppcnkaaH3
import Derived.Test.YtgmglpnoppcnkaaV2
namespace Go.Proofs.Ytgmglpnoppcnkaa
open Go.RowKit Go.Proofs.YtgmglpnoppcnkaaW.PrintWords Go.Proofs.YtgmglpnoppcnkaaW.PrintLast Go.Proofs.YtgmglpnoppcnkaaW.PrintMore
set_option linter.unusedVariables false
set_option linter.unusedSimpArgs false
set_option maxRecDepth 100000

def TakePost (w : World) (gh B : Nat) (sv : Value) (l' : List Vis) (w' : World) : Prop :=
  ∃ sv', HeapAt w' gh B sv' l' ∧ Kp w w' (fun i => i = gh ∨ some i = sv.ownBlock) ∧ sv'.ownBlock = sv.ownBlock

/-- In take: the heap's row (of N elements now), the result's block, x's block. -/
structure TakeInv (w : World) (gh B g cap N br : Nat) (rc : Array Value) (bx : Nat) (x : Vis) (lk : List Vis) (wr : World) : Prop where
  blk : wr.heap[gh]? = some (.cells #[.slice (some ⟨g, 0, none⟩) N cap, .func (.func 119) #[] #[]] 218 (0, 0))
  own : wr.ownsRow B 214 2 (.slice (some ⟨g, 0, none⟩) N cap) N (visCs lk)
  len : lk.length = N
  kp : Kp w wr (fun i => i = gh ∨ i = g)
  rb : wr.heap[br]? = some (.cells rc 214 (0, 0))
  xb : wr.heap[bx]? = some (.cells #[.int .i64 x.1, .int .i64 x.2] 214 (0, 0))
  gw : g < w.heap.size
  brw : w.heap.size ≤ br
  bxw : w.heap.size ≤ bx
  ne : br ≠ bx
section
variable {w : World} {gh B g cap N br : Nat} {rc : Array Value} {bx : Nat} {x : Vis} {lk : List Vis} {wr : World}
theorem TakeInv.cell0 (h : TakeInv w gh B g cap N br rc bx x lk wr) : wr.cell? ⟨gh, 0, none⟩ = some (.slice (some ⟨g, 0, none⟩) N cap) := blk_cell h.blk 0
theorem TakeInv.free0 (h : TakeInv w gh B g cap N br rc bx x lk wr) : wr.frozen? ⟨gh, 0, none⟩ = false := blk_frozen h.blk 0
theorem TakeInv.cell1 (h : TakeInv w gh B g cap N br rc bx x lk wr) : wr.cell? ⟨gh, 1, none⟩ = some (.func (.func 119) #[] #[]) := blk_cell h.blk 1
theorem TakeInv.at0 (h : TakeInv w gh B g cap N br rc bx x lk wr) (i : Nat) (hi : i < N) : wr.cell? ⟨g, i * 2, none⟩ = some (.int .i64 (vat lk i).1) := by
  rw [h.own.cellAt (i * 2) (by omega)]; exact visCs_get0 lk i (by rw [h.len]; exact hi)
theorem TakeInv.at1 (h : TakeInv w gh B g cap N br rc bx x lk wr) (i : Nat) (hi : i < N) : wr.cell? ⟨g, i * 2 + 1, none⟩ = some (.int .i64 (vat lk i).2) := by
  rw [h.own.cellAt (i * 2 + 1) (by omega)]; exact visCs_get1 lk i (by rw [h.len]; exact hi)
theorem TakeInv.free (h : TakeInv w gh B g cap N br rc bx x lk wr) (i : Nat) : wr.frozen? ⟨g, i, none⟩ = false := h.own.frozenAt i
theorem TakeInv.keep {W : World} (h : TakeInv w gh B g cap N br rc bx x lk wr) (hb : Below wr.heap.size wr W) : TakeInv w gh B g cap N br rc bx x lk W :=
  ⟨blk_below h.blk hb, own_move h.own (fun i hi => hb.block i (own_lt h.own i hi)), h.len, h.kp.trans (Kp.of_below hb (fun _ => False)) (fun _ h => h) (fun _ _ h => h.elim), blk_below h.rb hb, blk_below h.xb hb, h.gw, h.brw, h.bxw, h.ne⟩
/-- One element is written. -/
theorem TakeInv.put (h : TakeInv w gh B g cap N br rc bx x lk wr) (i : Nat) (v : Vis) : TakeInv w gh B g cap N br rc bx x (lk.set i v) ((wr.setCell ⟨g, i * 2, none⟩ (.int .i64 v.1)).setCell ⟨g, i * 2 + 1, none⟩ (.int .i64 v.2)) := by
  have hne : gh ≠ g := fun e => own_ne h.blk h.own (by decide) (by simp [Value.ownBlock, e])
  have h1 : br ≠ g := fun e => by have := h.gw; have := h.brw; omega
  have h2 : bx ≠ g := fun e => by have := h.gw; have := h.bxw; omega
  have o1 := h.own.stored (i * 2) (.int .i64 v.1)
  have o2 := o1.1.stored (i * 2 + 1) (.int .i64 v.2)
  refine ⟨blk_far (blk_far h.blk hne _) hne _, ?_, by simpa using h.len, ?_, blk_far (blk_far h.rb h1 _) h1 _, blk_far (blk_far h.xb h2 _) h2 _, h.gw, h.brw, h.bxw, h.ne⟩
  · have := o2.1
    rw [visCs_set] at this
    exact this
  · exact (h.kp.trans (Kp.setCell _ _ _ _) (U := fun i => i = gh ∨ i = g) (fun _ h => h) (fun _ _ h => .inr h)).trans (Kp.setCell _ _ _ _) (fun _ h => h) (fun _ _ h => .inr h)
/-- The slice is cut. -/
theorem TakeInv.cut (h : TakeInv w gh B g cap N br rc bx x lk wr) (M : Nat) (hM : M ≤ N) : TakeInv w gh B g cap M br rc bx x (lk.take M) (wr.setCell ⟨gh, 0, none⟩ (.slice (some ⟨g, 0, none⟩) M cap)) := by
  have hne : g ≠ gh := fun e => own_ne h.blk h.own (by decide) (by simp [Value.ownBlock, e])
  have h1 : br ≠ gh := fun e => by
    have a := h.rb; have b := h.blk; rw [e, b] at a; simp at a
  have h2 : bx ≠ gh := fun e => by
    have a := h.xb; have b := h.blk; rw [e, b] at a; simp at a
  refine ⟨by simpa using blk_set h.blk 0 (.slice (some ⟨g, 0, none⟩) M cap), ?_, by simp [h.len]; omega, h.kp.trans (Kp.setCell _ _ _ _) (fun _ h => h) (fun _ _ h => .inl h), blk_far h.rb h1 _, blk_far h.xb h2 _, h.gw, h.brw, h.bxw, h.ne⟩
  obtain ⟨e1, e2⟩ := h.own
  refine ⟨by rw [visCs_length]; simp [h.len]; omega, .inr ?_⟩
  rcases e2 with ⟨e3, _⟩ | ⟨g', cap', cur, hv, hb, hg, hc, hm, hs, ht⟩
  · simp at e3
  · simp only [Value.slice.injEq, Option.some.injEq, Addr.mk.injEq, and_true, true_and] at hv
    obtain ⟨rfl, rfl⟩ := hv
    refine ⟨g, cap, cur, rfl, hb, by rw [Below.heap_setCell _ _ _ _ hne]; exact hg, by omega, hm, hs, ?_⟩
    rw [← visCs_take, ← ht, List.take_take]
    congr 1
    omega
end

/-- least after d rounds of take's inner loop. -/
def lcUp (l : List Vis) (n i : Nat) : Nat → Nat
  | 0 => i
  | d + 1 => if 2 * i + 1 + d < n ∧ (vat l (2 * i + 1 + d)).2 < (vat l (lcUp l n i d)).2 then 2 * i + 1 + d else lcUp l n i d
theorem lcUp_lt (l : List Vis) (n i d : Nat) : lcUp l n i d = i ∨ lcUp l n i d < n := by
  induction d with
  | zero => exact .inl rfl
  | succ d ih =>
    rw [lcUp]
    split
    · rename_i h; exact .inr h.1
    · exact ih
theorem lcUp_two (l : List Vis) (n i : Nat) : lcUp l n i 2 = leastChild l n i := rfl
theorem lcUp_same (l : List Vis) (n i d : Nat) (h : n ≤ 2 * i + 1 + d) : lcUp l n i (d + 1) = lcUp l n i d := by
  rw [lcUp]; exact if_neg (fun h' => by have := h'.1; omega)
theorem lcUp_end (l : List Vis) (n i d : Nat) (hd : d ≤ 2) (h : d = 2 ∨ n ≤ 2 * i + 1 + d) : lcUp l n i d = leastChild l n i := by
  rw [← lcUp_two]
  rcases h with rfl | h
  · rfl
  · rcases (show d = 0 ∨ d = 1 ∨ d = 2 by omega) with rfl | rfl | rfl
    · rw [lcUp_same l n i 1 (by omega), lcUp_same l n i 0 (by omega)]
    · rw [lcUp_same l n i 1 (by omega)]
    · rfl
theorem take_done {w : World} {gh B g cap n br : Nat} {rc : Array Value} {bx : Nat} {x : Vis} {lk l : List Vis} {wr : World} (h : TakeInv w gh B g cap n br rc bx x lk wr) (hl : l.length = n + 1)
    (he : lk = siftDown ((l.set 0 (vat l n)).take n) n 0) (u v : Value) :
    TakePost w gh B (.slice (some ⟨g, 0, none⟩) (n + 1) cap) (takeRest l) ((wr.setCell ⟨br, 0, none⟩ u).setCell ⟨br, 1, none⟩ v) := by
  have e : takeRest l = lk := by
    unfold takeRest
    rw [hl, Nat.add_sub_cancel]
    exact he.symm
  rw [e]
  have h1 : gh ≠ br := fun e => by
    have a := h.rb; have b := h.blk; rw [← e, b] at a; simp at a
  have h2 : g ≠ br := fun e => by have := h.gw; have := h.brw; omega
  refine ⟨.slice (some ⟨g, 0, none⟩) n cap, ⟨blk_far (blk_far h.blk h1 _) h1 _, ?_⟩, ?_, rfl⟩
  · rw [h.len]
    refine own_move h.own (fun k hk => ?_)
    have : g = k := by simpa [Value.ownBlock] using hk
    subst this
    rw [Below.heap_setCell _ _ _ _ h2, Below.heap_setCell _ _ _ _ h2]
  · have hb := h.brw
    exact ((h.kp.trans (Kp.setCell _ _ _ _) (U := fun i => i = gh ∨ some i = Value.ownBlock (.slice (some ⟨g, 0, none⟩) (n + 1) cap)) (fun _ h => h.imp id (fun e => by simp [Value.ownBlock, e])) (fun _ hi h => by omega)).trans (Kp.setCell _ _ _ _) (fun _ h => h) (fun _ hi h => by omega))
theorem gate_loop {P : Program} {c : Code} {Q : Exit → Act → World → Prop} {a : Act} {w : World} (h : Hold ((Code.loop c).wp P Q a w)) : (Code.loop c).wp P Q a w := h

set_option maxHeartbeats 4000000 in
theorem take_calls (gh B g n cap : Nat) (l : List Vis) (w : World) (hn : l.length = n + 1) (hlen : n ≤ 200000) (hB : B ≤ w.heap.size) (hh : HeapAt w gh B (.slice (some ⟨g, 0, none⟩) (n + 1) cap) l) :
    Calls Try.prog 121 #[.pointer (some ⟨gh, 0, none⟩)] w fun e w' => e = .returned (.agg #[.int .i64 (vat l 0).1, .int .i64 (vat l 0).2]) ∧ TakePost w gh B (.slice (some ⟨g, 0, none⟩) (n + 1) cap) (takeRest l) w' := by
  have hown := hh.own
  rw [hn] at hown
  have hgw : g < w.heap.size := own_lt hown g (by simp [Value.ownBlock])
  go_enter Try.func121, Try.ntmps121
  go_wp2_with ((with_reducible refine gate_dst (N := 2) rfl ?_); refine hold ?_)
  refine box_event rfl (N := 2) rfl (cs := #[.int .i64 0, .int .i64 0]) (t := 214) (by go_simp) ?_
  intro br hbr w1 hb1 hB1
  have HT : Aside0 (TakeInv w gh B g cap (n + 1) br #[.int .i64 0, .int .i64 0] w1.heap.size (vat l 0) l (w1.alloc (.cells #[.int .i64 (vat l 0).1, .int .i64 (vat l 0).2] 214)).drew) := by
    have hk : Below w.heap.size w (w1.alloc (.cells #[.int .i64 (vat l 0).1, .int .i64 (vat l 0).2] 214)).drew := below_drew1 (below_alloc hB1 _)
    have hsz := hB1.size
    exact ⟨⟨blk_below hh.blk hk, own_move hown (fun i hi => hk.block i (own_lt hown i hi)), hn, Kp.of_below hk _, blk_drew (blk_alloc hb1 _), blk_drew (blk_new w1 _), hgw, by omega, by omega, fun e => by have := blk_lt hb1; omega⟩⟩
  have hh1 := hh.kp (Kp.of_below hB1 (fun _ => False)) (by simp) (by simp)
  have ho1 := own_move hown (fun i hi => hB1.block i (own_lt hown i hi))
  have C0 : ∀ W, Below w1.heap.size w1 W → W.cell? ⟨gh, 0, none⟩ = some (.slice (some ⟨g, 0, none⟩) (n + 1) cap) := fun W h => blk_cell (blk_below hh1.blk h) 0
  have C1 : ∀ W, Below w1.heap.size w1 W → W.cell? ⟨g, 0, none⟩ = some (.int .i64 (vat l 0).1) := fun W h => by
    rw [(own_move ho1 (fun i hi => h.block i (own_lt ho1 i hi))).cellAt 0 (by omega)]; exact visCs_get0 l 0 (by omega)
  have C2 : ∀ W, Below w1.heap.size w1 W → W.cell? ⟨g, 1, none⟩ = some (.int .i64 (vat l 0).2) := fun W h => by
    rw [(own_move ho1 (fun i hi => h.block i (own_lt ho1 i hi))).cellAt 1 (by omega)]; exact visCs_get1 l 0 (by omega)
  have hwn : IntKind.i64.wrap (n : Int) = (n : Int) := by rw [i64_w]; unfold wrap64; omega
  have HO := Aside0.mk (And.intro hh hh1)
  have HN := Aside0.mk hn
  clear hb1 hB1 hh1 ho1 hh hown hgw hbr hn
  go_wp2
  go_frame
  go_region_held3 (fun W => Below w1.heap.size w1 W) (first | exact below_drew1 (Below.refl _ _) | exact below_drew1 (below_alloc (Below.refl _ _) _) | exact below_alloc (below_drew1 (Below.refl _ _)) _) (fail)
  rename_i hH
  clear hH C0 C1 C2 HO
  generalize (World.drew _) = w2 at HT ⊢
  generalize w1.heap.size = bx at HT ⊢
  have c0 := HT.out.cell0
  have c1 : w2.cell? ⟨g, 0, none⟩ = some (.int .i64 (vat l 0).1) := HT.out.at0 0 (by omega)
  have c2 : w2.cell? ⟨g, 1, none⟩ = some (.int .i64 (vat l 0).2) := HT.out.at1 0 (by omega)
  have f1 := HT.out.free 0
  have f2 := HT.out.free 1
  have c3 := HT.out.at0 n (by omega)
  have c4 := HT.out.at1 n (by omega)
  have hcap : n + 1 ≤ cap := by
    rcases HT.out.own.2 with ⟨e3, _⟩ | ⟨g', cap', cur, hv, hb, hg, hc, hm, hs, ht⟩
    · simp at e3
    · simp only [Value.slice.injEq] at hv
      omega
  go_wp2
  go_region
  have HT2 := Aside0.mk ((HT.out.put 0 (vat l n)).keep (below_drew1 (Below.refl _ _)))
  clear c0 c1 c2 c3 c4 f1 f2 HT
  generalize (World.drew _) = w3 at HT2 ⊢
  have c0 := HT2.out.cell0
  have f0 := HT2.out.free0
  go_wp2
  have HT3 := Aside0.mk (HT2.out.cut n (by omega))
  clear c0 f0 HT2
  generalize (World.setCell _ _ _) = w4 at HT3 ⊢
  obtain ⟨L0, hL0⟩ : ∃ L0, L0 = (l.set 0 (vat l n)).take n := ⟨_, rfl⟩
  rw [← hL0] at HT3
  have HL0 := Aside0.mk hL0
  clear hL0
  go_loopw [5] (fun v wr => ∃ (i : Nat) (lk : List Vis), v = .int .i64 i ∧ i ≤ n ∧ Aside0 (TakeInv w gh B g cap n br #[.int .i64 0, .int .i64 0] bx (vat l 0) lk wr) ∧ Aside0 (siftDown lk n i = siftDown L0 n 0)) (fun v _ => n - (intOf v).toNat)
  case atStart => exact ⟨0, L0, rfl, Nat.zero_le _, HT3, ⟨rfl⟩⟩
  case round =>
    obtain ⟨i, lk, rfl, hi, HI, HS⟩ := hrel
    clear HT3
    obtain ⟨wo, rfl⟩ : ∃ wo, wo = wr := ⟨_, rfl⟩
    go_wp2
    go_loopw [6, 7] (fun v6 v7 wi => ∃ (d m c : Nat), v6 = .int .i64 m ∧ v7 = .int .i64 c ∧ d ≤ 2 ∧ Aside0 (c = 2 * i + 1 + d) ∧ Aside0 (m = lcUp lk n i d) ∧ Aside0 (Below wo.heap.size wo wi)) (fun _ v7 _ => 2 * i + 3 - (intOf v7).toNat)
    case atStart => exact ⟨0, i, 2 * i + 1, rfl, by go_num, by omega, ⟨rfl⟩, ⟨rfl⟩, ⟨Below.refl _ _⟩⟩
    case round =>
      obtain ⟨d, m, c, rfl, rfl, hd, HC, HM, HW⟩ := hrel
      have hc1 : 2 * i + 1 ≤ c := by have := HC.out; omega
      have hc2 : c ≤ 2 * i + 3 := by have := HC.out; omega
      have hm : m = i ∨ m < n := by rw [HM.out]; exact lcUp_lt lk n i d
      have hI2 := HI.out.keep HW.out
      by_cases hgo : c ≤ 2 * i + 2 ∧ c < n
      · obtain ⟨hg1, hg2⟩ := hgo
        have hmn : m < n := by omega
        have hI3 := Aside0.mk hI2
        have C : ∀ W, Below wr.heap.size wr W → TakeInv w gh B g cap n br #[.int .i64 0, .int .i64 0] bx (vat l 0) lk W := fun W h => hI2.keep h
        have C0 := fun W h => (C W h).cell0
        have C1 := fun W h => (C W h).cell1
        have C2 := fun W h => (C W h).at0 c hg2
        have C3 := fun W h => (C W h).at1 c hg2
        have C4 := fun W h => (C W h).at0 m hmn
        have C5 := fun W h => (C W h).at1 m hmn
        have hdd : d + 1 ≤ 2 := by have := HC.out; omega
        clear C hI2 hm
        go_wp2
        go_region_held3 (fun W => Below wr.heap.size wr W) (first | exact below_drew1 (Below.refl _ _) | exact below_step (by assumption) (by assumption)) (first | (go_at_call 119; refine (less_calls _ _ _ _ _).mono ?_; rintro e w' ⟨rfl, hbh⟩))
        rename_i hh
        have HW2 := Aside0.mk (below_step HW.out hh)
        clear hh hbh C0 C1 C2 C3 C4 C5 hI3
        by_cases ht : (vat lk c).2 < (vat lk m).2
        · have hM2 : c = lcUp lk n i (d + 1) := by
            rw [lcUp, if_pos]
            · exact HC.out
            · rw [← HC.out, ← HM.out]; exact ⟨hg2, ht⟩
          have HM2 := Aside0.mk hM2
          clear hM2
          go_wp2
          go_roundw
          case rel => exact ⟨d + 1, c, c + 1, rfl, by go_num, hdd, ⟨by rw [HC.out]; omega⟩, HM2, HW2⟩
          case measure => simp [intOf]; omega
        · have hM2 : m = lcUp lk n i (d + 1) := by
            rw [lcUp, if_neg]
            · exact HM.out
            · rw [← HC.out, ← HM.out]; exact fun h => ht h.2
          have HM2 := Aside0.mk hM2
          clear hM2
          go_wp2
          go_roundw
          case rel => exact ⟨d + 1, m, c + 1, rfl, by go_num, hdd, ⟨by rw [HC.out]; omega⟩, HM2, HW2⟩
          case measure => simp [intOf]; omega
      · have hE : m = leastChild lk n i := by
          rw [HM.out]; exact lcUp_end lk n i d hd (by have := HC.out; omega)
        have HE := Aside0.mk hE
        have HI3 := Aside0.mk hI2
        have hx : (c ≤ 2 * i + 2 ∧ n ≤ c) ∨ 2 * i + 2 < c := by omega
        clear hE hI2 hgo
        by_cases hmi : m = i
        · have he : ((m : Int) == (i : Int)) = true := by simp [hmi]
          have HD := Aside0.mk (show siftDown lk n i = lk by rw [siftDown, dif_pos (by rw [← HE.out, hmi])])
          clear hmi hm
          have cr0 : wr.cell? ⟨br, 0, none⟩ = some (.int .i64 0) := blk_cell HI3.out.rb 0
          have cr1 : wr.cell? ⟨br, 1, none⟩ = some (.int .i64 0) := blk_cell HI3.out.rb 1
          have fr0 : wr.frozen? ⟨br, 0, none⟩ = false := blk_frozen HI3.out.rb 0
          have fr1 : wr.frozen? ⟨br, 1, none⟩ = false := blk_frozen HI3.out.rb 1
          have cx0 : wr.cell? ⟨bx, 0, none⟩ = some (.int .i64 (vat l 0).1) := blk_cell HI3.out.xb 0
          have cx1 : wr.cell? ⟨bx, 1, none⟩ = some (.int .i64 (vat l 0).2) := blk_cell HI3.out.xb 1
          rcases hx with ⟨hx1, hx2⟩ | hx1
          all_goals
            go_wp2
            refine bodyPost_ret (v := .agg #[.int .i64 (vat l 0).1, .int .i64 (vat l 0).2]) ?_ rfl ?_
            · simp [results, Try.results121, go_sem, cr0, cr1]
            · refine ⟨rfl, ?_⟩
              exact take_done HI3.out HN.out (HD.out.symm.trans (HS.out.trans (by rw [HL0.out]))) _ _
        · have he : ((m : Int) == (i : Int)) = false := by simp; omega
          have hmn : m < n := by omega
          have hin : i < n := by have := leastChild_cases lk n i; have := HE.out; omega
          have him : i < m := by have := leastChild_cases lk n i; have := HE.out; omega
          have HD := Aside0.mk (show siftDown lk n i = siftDown (swapL lk i m) n m by rw [siftDown, dif_neg (by rw [← HE.out]; exact hmi), ← HE.out])
          clear hmi hm
          have c0 := HI3.out.cell0
          have c1 := HI3.out.at0 i hin
          have c2 := HI3.out.at1 i hin
          have c3 := HI3.out.at0 m hmn
          have c4 := HI3.out.at1 m hmn
          have f1 := HI3.out.free (i * 2)
          have f2 := HI3.out.free (i * 2 + 1)
          have f3 := HI3.out.free (m * 2)
          have f4 := HI3.out.free (m * 2 + 1)
          have HS2 := Aside0.mk ((((HI3.out.put i (vat lk m)).put m (vat lk i)).keep (below_drew1 (Below.refl _ _))))
          have HS3 : Aside0 (siftDown ((lk.set i (vat lk m)).set m (vat lk i)) n m = siftDown L0 n 0) := ⟨HD.out.symm.trans HS.out⟩
          rcases hx with ⟨hx1, hx2⟩ | hx1
          all_goals
            go_wp2
            go_region
            go_wp2
            go_roundw
            case rel => exact ⟨m, _, rfl, by omega, HS2, HS3⟩
            case measure => simp [intOf]; omega
end Go.Proofs.Ytgmglpnoppcnkaa
