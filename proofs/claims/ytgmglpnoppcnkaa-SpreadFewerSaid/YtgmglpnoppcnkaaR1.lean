/- A range over a function whose items lie in memory: the law of the statement. -/
import Derived.Test.YtgmglpnoppcnkaaH3
import Derived.RangeFuncNested
import Derived.RangeFuncCalls
import Derived.RangeFuncLeaves
import Derived.RangeFuncRecord
namespace Go.Proofs.Ytgmglpnoppcnkaa
open Go.RowKit Go.Proofs.YtgmglpnoppcnkaaW.PrintWords Go.Proofs.YtgmglpnoppcnkaaW.PrintLast Go.Proofs.YtgmglpnoppcnkaaW.PrintMore
set_option linter.unusedVariables false
set_option linter.unusedSimpArgs false
set_option maxRecDepth 100000

abbrev FW : Fence := Fence.wide
/-- What lies in the row of integers. -/
abbrev IntsAt (w : World) (A : Option Addr) (x : List Int) : Prop := Kd.C (Kd.int .i64) w A x.length x
/-- A round of loop l takes the item x, whatever slice it comes as. -/
def RoundsOk (l B : Nat) (xss : List (List Int)) (M : Nat → Prop) (J Jx : Nat → World → Prop) : Prop :=
  ∀ (k : Nat) (x : List Int) (W : World) (A : Option Addr) (c : Nat), J k W → xss[k]? = some x → IntsAt W A x → x.length ≤ c → B ≤ W.heap.size →
    YieldAt FW 0 Try.prog l #[.slice A x.length c] W fun e W' =>
      (e = .returned (.bool true) ∧ J (k + 1) W' ∧ Kp W W' M) ∨ (e = .returned (.bool false) ∧ Jx k W' ∧ Kp W W' (fun i => i < B))
/-- What is stable under changes from block B on. -/
def StableFrom (B : Nat) (J : Nat → World → Prop) : Prop := ∀ k W W', J k W → Below B W W' → J k W'
/-- Whatever is cells lies as it lay. -/
def CellsK (W W' : World) : Prop := ∀ (i : Nat) (cs : Array Value) (t : TypeId) (fr : Nat × Nat), W.heap[i]? = some (.cells cs t fr) → W'.heap[i]? = some (.cells cs t fr)
theorem CellsK.refl (W : World) : CellsK W W := fun _ _ _ _ h => h
theorem CellsK.trans {a b c : World} (h : CellsK a b) (k : CellsK b c) : CellsK a c := fun i cs t fr hi => k i cs t fr (h i cs t fr hi)
theorem cellsK_putObj {W : World} {r : Nat} {o o' : Obj} (h : W.heap[r]? = some o) (hn : ∀ cs t fr, o ≠ .cells cs t fr) : CellsK W (W.putObj r o') := fun i cs t fr hi => by
  have hne : i ≠ r := fun e => by
    subst e
    rw [h] at hi
    injection hi with hi
    exact hn cs t fr hi
  rw [World.putObj_heap_other hne]; exact hi
def StableX (B : Nat) (J : Nat → World → Prop) : Prop := ∀ k W W', J k W → Below B W W' → CellsK W W' → J k W'
/-- What an iterator over xss does, at world W: it reads what Ctx says. -/
def IterOk (f : FuncId) (lb : Array Value) (xss : List (List Int)) (Rd : Nat → Prop) (W0 : World) : Prop :=
  ∀ (l B : Nat) (M : Nat → Prop) (J Jx : Nat → World → Prop) (W : World), Below W0.heap.size W0 W → W.heap.size = B → StableFrom B J → StableX B Jx → RoundsOk l B xss M J Jx →
    (∀ i, M i → i < B ∧ ¬ Rd i) → J 0 W →
    Calls Try.prog f (#[.func (.yield l) #[] #[]] ++ lb) W fun e W' => (∃ v, e = .returned v) ∧ B ≤ W'.heap.size ∧ (J xss.length W' ∨ ∃ k, k < xss.length ∧ Jx k W')

/-- What a round's body leaves. -/
def bodyOk (B0 : Nat) (M : Nat → Prop) (I : Nat → World → Prop) (Ix : Code → Nat → World → Prop) (k : Nat) (W : World) : Exit → Act → World → Prop
  | .normal, _, W' => I (k + 1) W' ∧ Kp W W' M
  | .ret, _, W' => Ix .ret k W' ∧ Kp W W' (fun i => i < B0)
  | .exit id, _, W' => Ix (.exit id) k W' ∧ Kp W W' (fun i => i < B0)
  | .goto t, _, W' => Ix (.goto t) k W' ∧ Kp W W' (fun i => i < B0)
  | .panic _, _, _ => False
  | .outgrown, _, _ => False

theorem kp_putObj (w : World) (r : Nat) (o : Obj) : Kp w (w.putObj r o) (fun i => i = r) :=
  ⟨rfl, rfl, rfl, by simp, fun i hi hn => World.putObj_heap_other hn⟩
theorem below_putObj (w : World) (r : Nat) (o : Obj) {B : Nat} (hB : B ≤ r) (hr : r < w.heap.size) : Below B w (w.putObj r o) :=
  (kp_putObj w r o).below (by omega) (fun i e => by rw [e]; exact hB)
/-- A change and its undoing. -/
theorem kp_undo {W W3 : World} {l : Nat} {o o2 : Obj} {S : Nat → Prop} (hl : W.heap[l]? = some o) (hk : Kp (W.putObj l o2) W3 S) : Kp W (W3.putObj l o) S := by
  have hlt : l < W.heap.size := blk_lt hl
  have h2 := hk.size
  rw [World.putObj_size] at h2
  refine ⟨hk.os, hk.tape, hk.output, by rw [World.putObj_size]; exact h2, fun i hi hn => ?_⟩
  by_cases e : i = l
  · subst e
    rw [World.putObj_heap_same (by omega), hl]
  · rw [World.putObj_heap_other e, hk.block i (by rw [World.putObj_size]; exact hi) hn, World.putObj_heap_other e]

theorem ints_keep {W W' : World} {A : Option Addr} {x : List Int} (h : IntsAt W A x) (hk : ∀ a v, W.cell? a = some v → W'.cell? a = some v) : IntsAt W' A x := by
  obtain ⟨h1, h2, h3⟩ := h
  refine ⟨h1, h2, fun h0 => ?_⟩
  obtain ⟨ad, e, h4⟩ := h3 h0
  exact ⟨ad, e, fun j p hj => by
    obtain ⟨c, c1, c2, c3⟩ := h4 j p hj
    exact ⟨c, c1, c2, fun i u hu => hk _ _ (c3 i u hu)⟩⟩
theorem loop_cell {W : World} {l : Nat} {r : Loop} (h : W.heap[l]? = some (.loop r)) (a : Addr) (v : Value) (hv : W.cell? a = some v) : a.block ≠ l := by
  intro e
  unfold World.cell? at hv
  rw [e, h] at hv
  simp at hv
theorem ints_putLoop {W : World} {l : Nat} {r : Loop} {o : Obj} {A : Option Addr} {x : List Int} (h : W.heap[l]? = some (.loop r)) (hx : IntsAt W A x) : IntsAt (W.putObj l o) A x :=
  ints_keep hx (fun a v hv => (World.cell?_of_block (World.putObj_heap_other (loop_cell h a v hv))).trans hv)

/-- The statement 'for x := range g { .. }'. -/
theorem range_law {g : Operand} {p : Tmp} {assign body : Code} {Q : Exit → Act → World → Prop} {a : Act} {w : World} {gf : FuncId} {lb : Array Value} {xss : List (List Int)} {Rd : Nat → Prop}
    (hg : a.eval g = .func (.func gf) #[] lb) (eg : ∀ args w, (callFunc gf args).run Try.prog w = .ok (.enter gf args) w) (hit : IterOk gf lb xss Rd w)
    (M : Nat → Prop) (hM : ∀ i, M i → i < w.heap.size ∧ ¬ Rd i) (I : Nat → World → Prop) (Ix : Code → Nat → World → Prop) (hI : StableFrom w.heap.size I) (hIx : ∀ c, StableX w.heap.size (Ix c)) (h0 : I 0 w)
    (a₁ : Value → Act)
    (hassign : ∀ (l : Nat) (v : Value) (W : World) (K : Act → World → Prop), K (a₁ v) W → assign.wpIn (FW.inRound l) 0 Try.prog (Exit.then K (fun _ _ _ => False)) { tmps := a.tmps.setIfInBounds p v, defers := [] } W)
    (hbody : ∀ (l k : Nat) (x : List Int) (A : Option Addr) (c : Nat) (W : World), I k W → xss[k]? = some x → IntsAt W A x → x.length ≤ c → w.heap.size + 2 ≤ W.heap.size →
      body.wpIn (FW.inRound l) 0 Try.prog (bodyOk w.heap.size M I Ix k W) (a₁ (.slice A x.length c)) W)
    (hdone : ∀ W, w.heap.size + 2 ≤ W.heap.size → I xss.length W → W.heap[w.heap.size]? = some (.deferred (some [])) → Q .normal { a with defers := { target := .collected w.heap.size, args := #[] } :: a.defers } W)
    (hstop : ∀ (c : Code) (k : Nat) (W : World), w.heap.size + 2 ≤ W.heap.size → k < xss.length → Ix c k W → W.heap[w.heap.size]? = some (.deferred (some [])) → c.wp Try.prog Q { a with defers := { target := .collected w.heap.size, args := #[] } :: a.defers } W) :
    (Code.rangeFunc g #[p] assign body).wp Try.prog Q a w := by
  refine (wpIn_wide (n := 0)).1 (wpIn_rangeFunc ?_)
  intro fn hfn
  show ∃ l mark w₁ d w₁' f args w₂, (Instr.enterLoop fn a.tmps #[p] assign body none).run Try.prog w = _ ∧ _
  obtain ⟨rec, hrec⟩ : ∃ rec : LoopState → Option Code → Loop, rec = fun st pe => { state := st, pending := pe, fn, tmps := a.tmps, params := #[p], assign, body, defers := w.heap.size } := ⟨_, rfl⟩
  obtain ⟨W1, hW1⟩ : ∃ W1, (w.alloc (.deferred (some []))).alloc (.loop (rec .ready none)) = W1 := ⟨_, rfl⟩
  have hL1 : W1.heap[w.heap.size + 1]? = some (.loop (rec .ready none)) := by
    rw [← hW1]; have := World.alloc_heap_new (w.alloc (.deferred (some []))) (.loop (rec .ready none)); rwa [World.size_alloc] at this
  have hK1 : W1.heap[w.heap.size]? = some (.deferred (some [])) := by
    rw [← hW1]; exact (Below.heap_alloc _ _ _ (by simp)).trans (World.alloc_heap_new w _)
  have hb1 : Below w.heap.size w W1 := by
    rw [← hW1]; exact below_alloc (below_alloc (Below.refl _ _) _) _
  have hs1 : W1.heap.size = w.heap.size + 2 := by rw [← hW1]; simp
  have hI1 : I 0 W1 := hI _ _ _ h0 hb1
  refine ⟨w.heap.size + 1, [{ target := .collected w.heap.size, args := #[] }], W1, { target := .fn (.func gf) lb, args := #[.func (.yield (w.heap.size + 1)) #[] #[]] }, W1, gf,
    #[.func (.yield (w.heap.size + 1)) #[] #[]] ++ lb, W1, ?_, ?_, ?_, ?_, fun h => by simp [Fence.wide] at h, ?_⟩
  · rw [← hW1, hrec]; exact run_enterLoop_outer _ _ _ _ _
  · simp only [resolve, hg]
    simp [go_sem]
  · intro f' _; trivial
  · simp [invoke, go_sem, eg]
  · refine callsIn_wide.2 ((hit (w.heap.size + 1) (w.heap.size + 2) M
      (fun k W => I k W ∧ W.heap[w.heap.size + 1]? = some (.loop (rec .ready none)) ∧ W.heap[w.heap.size]? = some (.deferred (some [])))
      (fun k W => ∃ c, Ix c k W ∧ W.heap[w.heap.size + 1]? = some (.loop (rec .done (some c))) ∧ W.heap[w.heap.size]? = some (.deferred (some [])))
      W1 hb1 hs1 ?_ ?_ ?_ (fun i hi => ⟨by have := (hM i hi).1; omega, (hM i hi).2⟩) ⟨hI1, hL1, hK1⟩).mono ?_)
    · rintro k W W' ⟨h1, h2, h3⟩ hb
      exact ⟨hI _ _ _ h1 (hb.mono (by omega)), (hb.block _ (by omega)).trans h2, (hb.block _ (by omega)).trans h3⟩
    · rintro k W W' ⟨c, h1, h2, h3⟩ hb hck
      exact ⟨c, hIx c _ _ _ h1 (hb.mono (by omega)) hck, (hb.block _ (by omega)).trans h2, (hb.block _ (by omega)).trans h3⟩
    · rintro k x W A c ⟨hi, hl, hk⟩ hx hA hc hsz
      have hlt : w.heap.size + 1 < W.heap.size := by omega
      have hy := run_yield (P := Try.prog) (args := #[.slice A x.length c]) hl (by rw [hrec]; rfl)
      rw [hrec] at hy
      have hy2 : (Instr.yield (w.heap.size + 1) #[.slice A x.length c]).run Try.prog W = .ok (.round (w.heap.size + 1) fn (a.tmps.setIfInBounds p (.slice A x.length c)) assign body) W := by simpa using hy
      refine ⟨fn, _, assign, body, hy2, roundIn_of_wpIn hfn (hassign _ _ W _ ?_)⟩
      clear hy hy2
      refine ⟨_, run_beginRound hl (by rw [hrec]), ?_⟩
      obtain ⟨W2, hW2⟩ : ∃ W2, W2 = W.putObj (w.heap.size + 1) (.loop { rec .ready none with state := .busy }) := ⟨_, rfl⟩
      rw [← hW2]
      have hl2 : W2.heap[w.heap.size + 1]? = some (.loop { rec .ready none with state := .busy }) := by rw [hW2]; exact World.putObj_heap_same hlt
      have hk2 : W2.heap[w.heap.size]? = some (.deferred (some [])) := by rw [hW2]; exact (World.putObj_heap_other (by omega)).trans hk
      have hb2 : Below w.heap.size W W2 := by rw [hW2]; exact below_putObj _ _ _ (by omega) hlt
      have hs2 : W2.heap.size = W.heap.size := by rw [hW2]; simp
      have hA2 : IntsAt W2 A x := by rw [hW2]; exact ints_putLoop hl hA
      refine wpIn_mono (hbody _ k x A c W2 (hI _ _ _ hi hb2) hx hA2 hc (by omega)) ?_
      rintro e a3 W3 hp
      have fin : ∀ (jump : Option Code) (S : Nat → Prop), (∀ i, S i → i < w.heap.size) → Kp W2 W3 S →
          (Instr.endRound (w.heap.size + 1) jump).run Try.prog W3 = .ok (.bool jump.isNone) (W3.putObj (w.heap.size + 1) (.loop (rec (if jump.isNone then .ready else .done) jump))) ∧
          (W3.putObj (w.heap.size + 1) (.loop (rec (if jump.isNone then .ready else .done) jump))).heap[w.heap.size + 1]? = some (.loop (rec (if jump.isNone then .ready else .done) jump)) ∧
          (W3.putObj (w.heap.size + 1) (.loop (rec (if jump.isNone then .ready else .done) jump))).heap[w.heap.size]? = some (.deferred (some [])) ∧
          Below w.heap.size W3 (W3.putObj (w.heap.size + 1) (.loop (rec (if jump.isNone then .ready else .done) jump))) ∧
          CellsK W3 (W3.putObj (w.heap.size + 1) (.loop (rec (if jump.isNone then .ready else .done) jump))) := fun jump S hS hk3 => by
        have hl3 := hk3.blk hl2 (fun h => by have := hS _ h; omega)
        have hd3 := hk3.blk hk2 (fun h => by have := hS _ h; omega)
        have hlt3 := blk_lt hl3
        have := run_endRound (P := Try.prog) jump hl3
        rw [hrec] at this ⊢
        exact ⟨this, World.putObj_heap_same hlt3, (World.putObj_heap_other (by omega)).trans hd3, below_putObj _ _ _ (by omega) hlt3, cellsK_putObj hl3 (fun _ _ _ e => by cases e)⟩
      cases e with
      | normal =>
        obtain ⟨hi3, hk3⟩ := hp
        obtain ⟨hr, hl4, hd4, hb4, hc4⟩ := fin none M (fun i h => (hM i h).1) hk3
        refine ⟨_, _, hr, .inl ⟨rfl, ⟨hI _ _ _ hi3 hb4, hl4, hd4⟩, ?_⟩⟩
        rw [hW2] at hk3
        exact kp_undo hl hk3
      | ret =>
        obtain ⟨hi3, hk3⟩ := hp
        obtain ⟨hr, hl4, hd4, hb4, hc4⟩ := fin (some .ret) _ (fun i h => h) hk3
        refine ⟨_, _, hr, .inr ⟨rfl, ⟨_, hIx _ _ _ _ hi3 hb4 hc4, hl4, hd4⟩, ?_⟩⟩
        rw [hW2] at hk3
        exact ((kp_putObj _ _ _).trans hk3 (U := fun i => i < w.heap.size + 2) (fun i h => by omega) (fun i _ h => by omega)).trans (kp_putObj _ _ _) (fun i h => h) (fun i _ h => by omega)
      | exit id =>
        obtain ⟨hi3, hk3⟩ := hp
        obtain ⟨hr, hl4, hd4, hb4, hc4⟩ := fin (some (.exit id)) _ (fun i h => h) hk3
        refine ⟨_, _, hr, .inr ⟨rfl, ⟨_, hIx _ _ _ _ hi3 hb4 hc4, hl4, hd4⟩, ?_⟩⟩
        rw [hW2] at hk3
        exact ((kp_putObj _ _ _).trans hk3 (U := fun i => i < w.heap.size + 2) (fun i h => by omega) (fun i _ h => by omega)).trans (kp_putObj _ _ _) (fun i h => h) (fun i _ h => by omega)
      | goto t =>
        obtain ⟨hi3, hk3⟩ := hp
        obtain ⟨hr, hl4, hd4, hb4, hc4⟩ := fin (some (.goto t)) _ (fun i h => h) hk3
        refine ⟨_, _, hr, .inr ⟨rfl, ⟨_, hIx _ _ _ _ hi3 hb4 hc4, hl4, hd4⟩, ?_⟩⟩
        rw [hW2] at hk3
        exact ((kp_putObj _ _ _).trans hk3 (U := fun i => i < w.heap.size + 2) (fun i h => by omega) (fun i _ h => by omega)).trans (kp_putObj _ _ _) (fun i h => h) (fun i _ h => by omega)
      | panic ch => exact hp.elim
      | outgrown => exact hp.elim
    · rintro e W2 ⟨⟨v, rfl⟩, hsz, (⟨hi, hl, hk⟩ | ⟨k, hkl, c, hi, hl, hk⟩)⟩
      · refine ⟨none, _, by have := run_endLoop (P := Try.prog) hl (by rw [hrec]; simp); rw [hrec] at this; exact this, hdone _ (by simp; omega) (hI _ _ _ hi (below_putObj _ _ _ (by omega) (by omega))) ((World.putObj_heap_other (by omega)).trans hk)⟩
      · refine ⟨some c, _, by have := run_endLoop (P := Try.prog) hl (by rw [hrec]; simp); rw [hrec] at this; exact this, ?_⟩
        exact wpIn_wide.2 (hstop c k _ (by simp; omega) hkl (hIx c _ _ _ hi (below_putObj _ _ _ (by omega) (by omega)) (cellsK_putObj hl (fun _ _ _ e => by cases e))) ((World.putObj_heap_other (by omega)).trans hk))
end Go.Proofs.Ytgmglpnoppcnkaa
