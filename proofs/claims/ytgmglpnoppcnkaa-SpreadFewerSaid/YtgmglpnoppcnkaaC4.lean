/- choices' closure: an iterator. -/
import Derived.Test.YtgmglpnoppcnkaaC3

namespace Go.Proofs.Ytgmglpnoppcnkaa
open Go.RowKit Go.Proofs.YtgmglpnoppcnkaaW.PrintWords Go.Proofs.YtgmglpnoppcnkaaW.PrintLast Go.Proofs.YtgmglpnoppcnkaaW.PrintMore
set_option linter.unusedVariables false
set_option linter.unusedSimpArgs false
set_option maxRecDepth 100000
attribute [local go_sem] Oper.semAt_some

/-- The sets of k, k + 1, .. elements. -/
def choFrom (fine : List Int) : Nat → Nat → List (List Int)
  | _, 0 => []
  | k, n + 1 => chooseL k fine [] ++ choFrom fine (k + 1) n
/-- The sets of at most f elements. -/
def choicesL (f : Nat) (fine : List Int) : List (List Int) := choFrom fine 0 (f + 1)
/-- What choices' closure reads. -/
structure CoCtx (W : World) (fb cb cr wp : Nat) (f : Nat) (fine : List Int) (A : Option Addr) (c : Nat) (gone loose : List Bool) : Prop where
  hf : W.heap[fb]? = some (.cells #[.int .i64 f] 3 (0, 0))
  hc : W.heap[cb]? = some (.cells #[.pointer (some ⟨cr, 0, none⟩)] 137 (0, 0))
  hcr : W.heap[cr]? = some (.cells (careCs wp (.slice A fine.length c) gone loose).toArray 146 (0, 0))
  hfi : IntsAt W A fine
  fc : fine.length ≤ c
  l20 : fine.length ≤ 20
  f100 : f ≤ 100
def CoRd (fb cb cr : Nat) (A : Option Addr) (i : Nat) : Prop := i = fb ∨ i = cb ∨ i = cr ∨ (∃ ad, A = some ad ∧ ad.block = i)
theorem CoCtx.keep {W W' : World} {fb cb cr wp f : Nat} {fine : List Int} {A : Option Addr} {c : Nat} {gone loose : List Bool} {S : Nat → Prop} (h : CoCtx W fb cb cr wp f fine A c gone loose) (hk : Kp W W' S) (hS : ∀ i, S i → ¬ CoRd fb cb cr A i) : CoCtx W' fb cb cr wp f fine A c gone loose :=
  ⟨hk.blk h.hf (fun s => hS _ s (.inl rfl)), hk.blk h.hc (fun s => hS _ s (.inr (.inl rfl))), hk.blk h.hcr (fun s => hS _ s (.inr (.inr (.inl rfl)))), ints_kp h.hfi hk (fun ad e s => hS _ s (.inr (.inr (.inr ⟨ad, e, rfl⟩)))), h.fc, h.l20, h.f100⟩
theorem CoCtx.below {W W' : World} {fb cb cr wp f : Nat} {fine : List Int} {A : Option Addr} {c : Nat} {gone loose : List Bool} (h : CoCtx W fb cb cr wp f fine A c gone loose) (hb : Below W.heap.size W W') : CoCtx W' fb cb cr wp f fine A c gone loose :=
  h.keep (Kp.of_below hb (fun _ => False)) (fun _ s => s.elim)

structure CoInv (B : Nat) (M : Nat → Prop) (J : Nat → World → Prop) (W1 : World) (f : Nat) (fine : List Int) (i p : Nat) (Ds : List Nat) (W : World) : Prop where
  kp : Kp W1 W M
  j : J p W
  drop : (choicesL f fine).drop p = choFrom fine i (f + 1 - i)
  ple : p ≤ (choicesL f fine).length
  nodup : Ds.Nodup
  marks : ∀ D ∈ Ds, W.heap[D]? = some (.deferred (some [])) ∧ B ≤ D
/-- The loop's frame. -/
def CoLoop (y B fb cb : Nat) (M : Nat → Prop) (J : Nat → World → Prop) (W1 : World) (f : Nat) (fine : List Int) (a : Act) (W : World) : Prop :=
  ∃ (i p : Nat) (Ds : List Nat) (u4 u5 u9 u10 u11 u12 u13 u14 u15 u16 u17 u18 u19 u20 u21 u22 : Value), i ≤ f + 1 ∧ a = { tmps := #[.func (.yield y) #[] #[], .pointer (some ⟨fb, 0, none⟩), .pointer (some ⟨cb, 0, none⟩), .pointer (some ⟨B, 0, none⟩), u4, u5, .int .i64 (f : Int), .int .i64 ((f : Int) + 1), .int .i64 (i : Int), u9, u10, u11, u12, u13, u14, u15, u16, u17, u18, u19, u20, u21, u22], defers := Ds.map mk } ∧ Aside0 (CoInv B M J W1 f fine i p Ds W)
def coMu (f : Nat) (a : Act) : Nat := f + 1 - (intOf (a.tmps.getD 8 undef)).toNat

set_option maxHeartbeats 8000000 in
theorem choices1_iter (fb cb cr wp : Nat) (f : Nat) (fine : List Int) (A : Option Addr) (c : Nat) (gone loose : List Bool) (W0 : World) (hc : CoCtx W0 fb cb cr wp f fine A c gone loose) :
    IterOk 122 #[.pointer (some ⟨fb, 0, none⟩), .pointer (some ⟨cb, 0, none⟩)] (choicesL f fine) (CoRd fb cb cr A) W0 := by
  intro y B M J Jx W hW hB hJ hJx hR hM h0
  have hcW := hc.below hW
  have hf100 := hc.f100
  have hl20 := hc.l20
  refine (callsIn_wide (n := 0)).1 (callsIn_of_wp_marks Try.func122 rfl trivial ?_ rfl)
  simp only [Try.ntmps122, List.size_toArray, List.length_cons, List.length_nil, Nat.reduceAdd, Nat.reduceSub, Array.replicate_succ, Array.replicate_zero, List.push_toArray, List.append_toArray, List.nil_append, List.cons_append]
  obtain ⟨W1, hW1⟩ : ∃ W1, W1 = W.alloc (.cells #[.func (.yield y) #[] #[]] 221) := ⟨_, rfl⟩
  have hb1 : Below W.heap.size W W1 := by rw [hW1]; exact below_alloc (Below.refl _ _) _
  have hc1 := hcW.below hb1
  have hyb : W1.heap[B]? = some (.cells #[.func (.yield y) #[] #[]] 221 (0, 0)) := by rw [hW1, ← hB]; exact blk_new W _
  have e0 : W1.cell? ⟨fb, 0, none⟩ = some (.int .i64 (f : Int)) := blk_cell hc1.hf 0
  have hj1 : J 0 W1 := hJ _ _ _ h0 (hb1.mono (by omega))
  have hsz : B + 1 ≤ W1.heap.size := by have := blk_lt hyb; omega
  have hwf : IntKind.i64.wrap ((f : Int) + 1) = (f : Int) + 1 := by rw [i64_w]; unfold wrap64; omega
  have HC1 := Aside0.mk hc1
  have HYB := Aside0.mk hyb
  have HST := Aside0.mk (And.intro hJ hJx)
  have HR := Aside0.mk hR
  have HM := Aside0.mk hM
  have HI0 : Aside0 (CoInv B M J W1 f fine 0 0 [] W1) := ⟨⟨Kp.refl _ _, hj1, rfl, Nat.zero_le _, List.nodup_nil, by simp⟩⟩
  have HBB := Aside0.mk hB
  rw [hW1] at e0
  have HW1 := Aside0.mk hW1
  clear hc hcW hc1 hyb hj1 h0 hb1 hJ hJx hR hM hW hB hW1
  have hszA := HBB.out
  gi_wp2
  rw [← HW1.out]
  clear e0
  clear hszA
  refine wpIn_loop (CoLoop y B fb cb M J W1 f fine) (fun a _ => coMu f a) ⟨0, 0, [], undef, undef, undef, undef, undef, undef, undef, undef, undef, undef, undef, undef, undef, undef, undef, undef, Nat.zero_le _, rfl, HI0⟩ ?_
  clear HI0
  rintro _ W2 ⟨i, p, Ds, u4, u5, u9, u10, u11, u12, u13, u14, u15, u16, u17, u18, u19, u20, u21, u22, hile, rfl, HI⟩
  have hctx := HC1.out.keep HI.out.kp (fun i hi => (HM.out i hi).2)
  by_cases hgo : i < f + 1
  · have hdg : decide ((i : Int) < (f : Int) + 1) = true := by simp; omega
    have hwi : IntKind.i64.wrap ((i : Int) + 1) = (i : Int) + 1 := by rw [i64_w]; unfold wrap64; omega
    have e0 : W2.cell? ⟨cb, 0, none⟩ = some (.pointer (some ⟨cr, 0, none⟩)) := blk_cell hctx.hc 0
    have e1 : W2.cell? ⟨cr, 1, none⟩ = some (.slice A fine.length c) := blk_cell hctx.hcr 1
    have HU := Aside0.mk hctx
    clear hctx
    gi_wp2
    refine ⟨trivial, rfl, (callsIn_wide.2 (choose_calls _ _ _ _ ⟨_, _, _, rfl⟩ ⟨_, _, _, rfl⟩)).mono ?_⟩
    rintro e W6 ⟨lb', kb', cb', rfl, hb6, hch60⟩
    have hch6 := Aside0.mk hch60
    clear hch60
    gi_wp2
    obtain ⟨q1, q2, q3, q4, q5, q6⟩ := hch6.out
    have hsz2 : B + 1 ≤ W2.heap.size := Nat.le_trans hsz HI.out.kp.size
    have hs6 := hb6.size
    have hctx6 : ChCtx W6 kb' cb' lb' i fine [] A c none 0 := by
      refine ⟨q2, q3, q1, Kd.C_below HU.out.hfi hb6, ⟨rfl, by simp, fun h => by simp at h⟩, HU.out.fc, Nat.le_refl _, fun _ => ⟨rfl, rfl⟩, fun h => absurd rfl h, by omega, hl20, by simp; omega⟩
    have hctxA := Aside0.mk hctx6
    have hM6 : ∀ j, M j → j < W6.heap.size ∧ ¬ ChRd kb' cb' lb' A none j := by
      intro j hj
      have h1 := HM.out j hj
      refine ⟨by omega, ?_⟩
      rintro (e | e | e | ⟨a, ea, e⟩ | ⟨a, ea, e⟩)
      · omega
      · omega
      · omega
      · exact h1.2 (.inr (.inr (.inr ⟨a, ea, e⟩)))
      · cases ea
    have hy6 : W6.heap[B]? = some (.cells #[.func (.yield y) #[] #[]] 221 (0, 0)) := blk_below (HI.out.kp.blk HYB.out (fun e => by have := (HM.out _ e).1; omega)) hb6
    have HY6 := Aside0.mk hy6
    have HM6 := Aside0.mk hM6
    have HS6 : Aside0 (B + 1 ≤ W6.heap.size) := ⟨by omega⟩
    have HB6 := Aside0.mk hb6
    clear hctx6 hM6 hy6 q1 q2 q3 q4 q5 q6 hs6 hch6 hb6 e0 e1
    refine wpIn_wide.2 (range_law (gf := 129) (lb := #[.pointer (some ⟨kb', 0, none⟩), .pointer (some ⟨cb', 0, none⟩), .pointer (some ⟨lb', 0, none⟩)]) rfl (callFunc_enter Try.func129 (by kernel_rfl) rfl) (choose1_iter i kb' cb' lb' fine [] A none c 0 W6 hctxA.out) M HM6.out
      (fun k' W' => J (p + k') W' ∧ Kp W6 W' M) (fun cc k' W' => cc = .ret ∧ Jx (p + k') W' ∧ Kp W6 W' (fun i => i < B)) ?hI ?hIx ?h0
      (fun vv => { tmps := #[.func (.yield y) #[] #[], .pointer (some ⟨fb, 0, none⟩), .pointer (some ⟨cb, 0, none⟩), .pointer (some ⟨B, 0, none⟩), .int .i64 (i : Int), vv, .int .i64 (f : Int), .int .i64 ((f : Int) + 1), .int .i64 (i : Int), .bool true, .int .i64 (i : Int), .pointer (some ⟨cr, 0, none⟩), .pointer (some ⟨cr, 0, none⟩), .pointer (some ⟨cr, 1, none⟩), .slice A fine.length c, .int .i64 (i : Int), .func (.func 129) #[] #[.pointer (some ⟨kb', 0, none⟩), .pointer (some ⟨cb', 0, none⟩), .pointer (some ⟨lb', 0, none⟩)], vv, u18, u19, u20, u21, u22], defers := [] }) ?assign ?body ?done ?stop)
    case hI => exact fun k' Wa Wb h hb => ⟨HST.out.1 _ _ _ h.1 (hb.mono (by have := HS6.out; omega)), kp_below h.2 hb⟩
    case hIx => exact fun cc k' Wa Wb h hb hck => ⟨h.1, HST.out.2 _ _ _ h.2.1 (hb.mono (by have := HS6.out; omega)) hck, kp_below h.2.2 hb⟩
    case h0 => exact ⟨HST.out.1 _ _ _ HI.out.j (HB6.out.mono (by omega)), Kp.refl _ _⟩
    case assign =>
      intro lr vv Wa K hK
      gi_wp2
      exact hK
    case body =>
      rintro lr k' x Ax cx Wa ⟨hj, hk⟩ hx hA hcx hszW
      have hx' : (choicesL f fine)[p + k']? = some x := by
        have hdr := HI.out.drop
        rw [show f + 1 - i = (f - i) + 1 by omega, choFrom] at hdr
        have h1 : ((choicesL f fine).drop p)[k']? = some x := by
          rw [hdr, List.getElem?_append_left (List.getElem?_eq_some_iff.1 hx).1]
          exact hx
        rwa [List.getElem?_drop] at h1
      obtain ⟨fn, tmps, assign, body, hy, hRd⟩ := HR.out (p + k') x Wa Ax cx hj hx' hA hcx (by have := HS6.out; have := hk.size; omega)
      have e0 : Wa.cell? ⟨B, 0, none⟩ = some (.func (.yield y) #[] #[]) := blk_cell (hk.blk HY6.out (fun e => by have := (HM.out _ e).1; omega)) 0
      have HKA := Aside0.mk (And.intro hk hj)
      clear hj hk hx hA hcx hx'
      gi_wp2
      refine ⟨rfl, hRd.mono ?_⟩
      clear hy hRd e0
      rintro e Wb (⟨rfl, hj', hk'⟩ | ⟨rfl, hj', hk'⟩)
      · gi_wp2
        exact ⟨⟨hj', HKA.out.1.trans hk' (fun _ h => h) (fun _ _ h => h)⟩, hk'⟩
      · gi_wp2
        exact ⟨⟨rfl, hj', HKA.out.1.trans hk' (fun j h => (HM.out j h).1) (fun _ _ h => h)⟩, hk'.mono (fun j _ h => by have := HS6.out; omega)⟩
    case done =>
      rintro Wa hszW ⟨hj, hk⟩ hd
      have HD := Aside0.mk (And.intro hszW (And.intro hj (And.intro hk hd)))
      clear hszW hj hk hd
      gi_wp2
      obtain ⟨hszW, hj, hk, hd⟩ := HD.out
      have hdr := HI.out.drop
      rw [show f + 1 - i = (f - i) + 1 by omega, choFrom] at hdr
      have hlen := congrArg List.length hdr
      rw [List.length_drop, List.length_append] at hlen
      have hple := HI.out.ple
      have hs6 := HS6.out
      have hs26 := HB6.out.size
      refine ⟨⟨i + 1, p + (chooseL i fine []).length, W6.heap.size :: Ds, _, _, _, _, _, _, _, _, _, _, _, _, _, _, _, _, by omega, rfl, ⟨⟨?_, hj, ?_, by omega, ?_, ?_⟩⟩⟩, ?_⟩
      · exact (kp_below (HI.out.kp) (HB6.out.mono HI.out.kp.size)).trans hk (fun _ h => h) (fun _ _ h => h)
      · rw [← List.drop_drop, hdr, List.drop_left, show f + 1 - (i + 1) = f - i by omega]
      · refine List.nodup_cons.2 ⟨fun hin => ?_, HI.out.nodup⟩
        have := blk_lt (HI.out.marks _ hin).1
        omega
      · intro D hD
        rcases List.mem_cons.1 hD with rfl | hD
        · exact ⟨hd, by omega⟩
        · obtain ⟨e1, e2⟩ := HI.out.marks D hD
          exact ⟨hk.blk (blk_below e1 HB6.out) (fun e => by have := (HM.out _ e).1; omega), e2⟩
      · unfold coMu
        simp [intOf]
        omega
    case stop =>
      rintro cc k' Wa hszW hk' ⟨rfl, hj, hk⟩ hd
      have HD := Aside0.mk (And.intro hszW (And.intro hj (And.intro hk (And.intro hd hk'))))
      clear hszW hj hk hd hk'
      refine (wpIn_wide (n := 0)).1 ?_
      gi_wp2
      obtain ⟨hszW, hj, hk, hd, hk'⟩ := HD.out
      have hdr := HI.out.drop
      rw [show f + 1 - i = (f - i) + 1 by omega, choFrom] at hdr
      have hlen := congrArg List.length hdr
      rw [List.length_drop, List.length_append] at hlen
      have hple := HI.out.ple
      have hs6 := HS6.out
      have hs26 := HB6.out.size
      refine leaves_marks (B := B) (W6.heap.size :: Ds) Wa ?_ ?_ (fun W' hb hck hs => ⟨_, results_none rfl _ _ _, ⟨_, rfl⟩, by omega, .inr ⟨p + k', by omega, HST.out.2 _ _ _ hj hb hck⟩⟩)
      · refine List.nodup_cons.2 ⟨fun hin => ?_, HI.out.nodup⟩
        have := blk_lt (HI.out.marks _ hin).1
        omega
      · intro D hD
        rcases List.mem_cons.1 hD with rfl | hD
        · exact ⟨hd, by omega⟩
        · obtain ⟨e1, e2⟩ := HI.out.marks D hD
          exact ⟨hk.blk (blk_below e1 HB6.out) (fun e => by omega), e2⟩
  · obtain rfl : i = f + 1 := by omega
    have hdg : decide (((f + 1 : Nat) : Int) < (f : Int) + 1) = false := by simp
    clear hile hgo hctx
    gi_wp2
    have hdr := HI.out.drop
    rw [Nat.sub_self, choFrom] at hdr
    have hlen := congrArg List.length hdr
    rw [List.length_drop, List.length_nil] at hlen
    have hple := HI.out.ple
    have hp : p = (choicesL f fine).length := by omega
    have hs := HI.out.kp.size
    refine leaves_marks (B := B) Ds W2 HI.out.nodup HI.out.marks (fun W' hb hck hs' => ⟨_, results_none rfl _ _ _, ⟨_, rfl⟩, by omega, .inl (by rw [← hp]; exact HST.out.1 _ _ _ HI.out.j hb)⟩)
end Go.Proofs.Ytgmglpnoppcnkaa
