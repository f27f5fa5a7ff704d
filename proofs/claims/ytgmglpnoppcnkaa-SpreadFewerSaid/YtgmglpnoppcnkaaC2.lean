/- choose's closure: an iterator. -/
import Derived.Test.YtgmglpnoppcnkaaC1
import Derived.Shelf.Abstract
import Derived.Shelf.RegionOpen
import Derived.OwnWalkIn
import Derived.TacticsInMore
import Derived.LoopNIn
import Derived.LoopIn
import Derived.WalkMore
namespace Go.Proofs.Ytgmglpnoppcnkaa
open Go.RowKit Go.Proofs.YtgmglpnoppcnkaaW.PrintWords Go.Proofs.YtgmglpnoppcnkaaW.PrintLast Go.Proofs.YtgmglpnoppcnkaaW.PrintMore
set_option linter.unusedVariables false
set_option linter.unusedSimpArgs false
set_option maxRecDepth 100000
attribute [local go_sem] Oper.semAt_some

/-- What choose's closure reads. -/
structure ChCtx (W : World) (kb cb lb : Nat) (k : Nat) (l ch : List Int) (A1 : Option Addr) (c1 : Nat) (A2 : Option Addr) (c2 : Nat) : Prop where
  hkb : W.heap[kb]? = some (.cells #[.int .i64 k] 3 (0, 0))
  hcb : W.heap[cb]? = some (.cells #[.slice A2 ch.length c2] 33 (0, 0))
  hlb : W.heap[lb]? = some (.cells #[.slice A1 l.length c1] 33 (0, 0))
  hl : IntsAt W A1 l
  hch : IntsAt W A2 ch
  lc : l.length ≤ c1
  cc : ch.length ≤ c2
  nil : ch = [] → A2 = none ∧ c2 = 0
  nn : ch ≠ [] → ∃ ad, A2 = some ad
  k20 : k ≤ 1000
  l20 : l.length ≤ 20
  ck : ch.length + k ≤ 2000
def ChRd (kb cb lb : Nat) (A1 A2 : Option Addr) (i : Nat) : Prop := i = kb ∨ i = cb ∨ i = lb ∨ (∃ ad, A1 = some ad ∧ ad.block = i) ∨ (∃ ad, A2 = some ad ∧ ad.block = i)
theorem ints_kp {W W' : World} {A : Option Addr} {x : List Int} {S : Nat → Prop} (h : IntsAt W A x) (hk : Kp W W' S) (hn : ∀ ad, A = some ad → ¬ S ad.block) : IntsAt W' A x := by
  obtain ⟨h1, h2, h3⟩ := h
  refine ⟨h1, h2, fun h0 => ?_⟩
  obtain ⟨ad, e, h4⟩ := h3 h0
  refine ⟨ad, e, fun j p hj => ?_⟩
  obtain ⟨c, c1, c2, c3⟩ := h4 j p hj
  refine ⟨c, c1, c2, fun i u hu => ?_⟩
  have := c3 i u hu
  have hb : (ad.add (j * 1 + i)).block = ad.block := by unfold Addr.add; split <;> rfl
  have hlt : (ad.add (j * 1 + i)).block < W.heap.size := World.block_lt_of_cell? W _ this
  refine (World.cell?_of_block (hk.block _ hlt ?_)).trans this
  rw [hb]
  exact hn ad e
theorem ChCtx.keep {W W' : World} {kb cb lb k : Nat} {l ch : List Int} {A1 A2 : Option Addr} {c1 c2 : Nat} {S : Nat → Prop} (h : ChCtx W kb cb lb k l ch A1 c1 A2 c2) (hk : Kp W W' S) (hS : ∀ i, S i → ¬ ChRd kb cb lb A1 A2 i) : ChCtx W' kb cb lb k l ch A1 c1 A2 c2 :=
  ⟨hk.blk h.hkb (fun s => hS _ s (.inl rfl)), hk.blk h.hcb (fun s => hS _ s (.inr (.inl rfl))), hk.blk h.hlb (fun s => hS _ s (.inr (.inr (.inl rfl)))),
   ints_kp h.hl hk (fun ad e s => hS _ s (.inr (.inr (.inr (.inl ⟨ad, e, rfl⟩))))), ints_kp h.hch hk (fun ad e s => hS _ s (.inr (.inr (.inr (.inr ⟨ad, e, rfl⟩))))), h.lc, h.cc, h.nil, h.nn, h.k20, h.l20, h.ck⟩
theorem ChCtx.below {W W' : World} {kb cb lb k : Nat} {l ch : List Int} {A1 A2 : Option Addr} {c1 c2 : Nat} (h : ChCtx W kb cb lb k l ch A1 c1 A2 c2) (hb : Below W.heap.size W W') : ChCtx W' kb cb lb k l ch A1 c1 A2 c2 :=
  h.keep (Kp.of_below hb (fun _ => False)) (fun _ s => s.elim)

set_option maxHeartbeats 2000000 in
/-- No element is left to choose: what has been chosen is handed on. -/
theorem choose1_zero (kb cb lb : Nat) (l ch : List Int) (A1 A2 : Option Addr) (c1 c2 : Nat) (W0 : World) (hc : ChCtx W0 kb cb lb 0 l ch A1 c1 A2 c2) :
    IterOk 129 #[.pointer (some ⟨kb, 0, none⟩), .pointer (some ⟨cb, 0, none⟩), .pointer (some ⟨lb, 0, none⟩)] (chooseL 0 l ch) (ChRd kb cb lb A1 A2) W0 := by
  intro y B M J Jx W hW hB hJ hJx hR hM h0
  have hcW := hc.below hW
  refine (callsIn_wide (n := 0)).1 (callsIn_of_wp_marks Try.func129 rfl trivial ?_ rfl)
  simp only [Try.ntmps129, List.size_toArray, List.length_cons, List.length_nil, Nat.reduceAdd, Nat.reduceSub, Array.replicate_succ, Array.replicate_zero, List.push_toArray, List.append_toArray, List.nil_append, List.cons_append]
  obtain ⟨W1, hW1⟩ : ∃ W1, W1 = W.alloc (.cells #[.func (.yield y) #[] #[]] 221) := ⟨_, rfl⟩
  have hb1 : Below W.heap.size W W1 := by rw [hW1]; exact below_alloc (Below.refl _ _) _
  have hc1 := hcW.below hb1
  have e0 : W1.cell? ⟨kb, 0, none⟩ = some (.int .i64 0) := blk_cell hc1.hkb 0
  have e1 : W1.cell? ⟨cb, 0, none⟩ = some (.slice A2 ch.length c2) := blk_cell hc1.hcb 0
  have e2 : W1.cell? ⟨W.heap.size, 0, none⟩ = some (.func (.yield y) #[] #[]) := by rw [hW1]; exact blk_cell (blk_new W _) 0
  have hj1 : J 0 W1 := hJ _ _ _ h0 (hb1.mono (by omega))
  obtain ⟨fn, tmps, assign, body, hy, hRd⟩ := hR 0 ch W1 A2 c2 hj1 (by rw [chooseL_zero]; rfl) hc1.hch hc1.cc (by have := hb1.size; omega)
  have HH := Aside0.mk (And.intro hc1 (And.intro hj1 hb1))
  have HBB := Aside0.mk hB
  rw [hW1] at e0 e1 e2 hy hRd
  have hsz : W1.heap.size = B + 1 := by rw [hW1]; simp; omega
  have HSZ := Aside0.mk hsz
  have HW1 := Aside0.mk hW1
  clear hcW hc1 hj1 hb1 h0 hB hW1 hsz
  gi_wp2
  refine wpIn_wide.2 (wp_scope_straight ((wpIn_wide (n := 0)).1 ?_))
  gi_wp2
  refine ⟨rfl, hRd.mono ?_⟩
  clear hy hRd e0 e1 e2
  rintro e W2 (⟨rfl, hj, hk⟩ | ⟨rfl, hj, hk⟩)
  · gi_wp2
    refine ⟨_, results_none rfl _ _ _, ⟨_, rfl⟩, ?_, .inl (by rw [chooseL_zero]; exact hj)⟩
    have := hk.size; rw [← HW1.out, HSZ.out] at this; omega
  · gi_wp2
    refine ⟨_, results_none rfl _ _ _, ⟨_, rfl⟩, ?_, .inr ⟨0, by rw [chooseL_zero]; exact Nat.one_pos, hj⟩⟩
    have := hk.size; rw [← HW1.out, HSZ.out] at this; omega

def mk (D : Nat) : Deferred := { target := .collected D, args := #[] }
/-- A function whose loops have left marks leaves. -/
theorem leaves_marks {fn : Func} {tmps : Array Value} {R : Ending → World → Prop} {B : Nat} : ∀ (Ds : List Nat) (W : World), Ds.Nodup → (∀ D ∈ Ds, W.heap[D]? = some (.deferred (some [])) ∧ B ≤ D) →
    (∀ W', Below B W W' → CellsK W W' → W.heap.size ≤ W'.heap.size → ∃ v, (results fn tmps).run Try.prog W' = .ok v W' ∧ R (.returned v) W') → LeavesInM FW 0 Try.prog fn tmps R (Ds.map mk) .returning W := by
  intro Ds
  induction Ds with
  | nil => intro W _ _ h; exact h W (Below.refl _ _) (CellsK.refl _) (Nat.le_refl _)
  | cons D r ih =>
    intro W hn hD h
    obtain ⟨h1, h2⟩ := List.nodup_cons.1 hn
    obtain ⟨hd, hB⟩ := hD D List.mem_cons_self
    have hb := below_putObj W D (.deferred none) hB (blk_lt hd)
    refine ⟨by simp, .inl ⟨D, _, rfl, run_takeDeferred hd, ih _ h2 (fun E hE => ?_) (fun W' hb' hc' hs => h W' (hb.trans hb') ((cellsK_putObj hd (fun _ _ _ e => by cases e)).trans hc') (by simpa using hs))⟩⟩
    obtain ⟨e1, e2⟩ := hD E (List.mem_cons_of_mem _ hE)
    exact ⟨(World.putObj_heap_other (fun e => h1 (by rw [← e]; exact hE))).trans e1, e2⟩
theorem clone_any (A : Option Addr) (c : Nat) (x : List Int) (w : World) (hx : IntsAt w A x) (hnil : x = [] → A = none ∧ c = 0) (hb : x.length ≤ 100000) :
    Calls Try.prog 98 #[.slice A x.length c] w fun e w' => ∃ v, e = .returned v ∧ w'.ownsRow w.heap.size 3 1 v x.length (ints x) ∧ Below w.heap.size w w' := by
  by_cases h0 : x = []
  · subst h0
    obtain ⟨rfl, rfl⟩ := hnil rfl
    exact (clone_nil w).mono fun e w' ⟨he, hb⟩ => ⟨_, he, ⟨rfl, .inl ⟨rfl, rfl⟩⟩, hb⟩
  · have hp : 0 < x.length := List.length_pos_iff.2 h0
    obtain ⟨ad, rfl, -⟩ := int_get hx 0 hp
    exact (clone_calls ad c x w hx hp hb).mono fun e w' ⟨g, cap, he, ho, hb⟩ => ⟨_, he, ho, hb⟩
end Go.Proofs.Ytgmglpnoppcnkaa
