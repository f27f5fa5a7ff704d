/- The Go library's slices.Repeat at a list of one integer: a new row of that integer. -/
import Derived.Test.YtgmglpnoppcnkaaPBx
import Derived.Laws.CopyOwn
import Derived.Deep.RegionLaw
import Derived.WalkSpells
import Derived.WalkLawsBesides
namespace Go.Proofs.Ytgmglpnoppcnkaa
open Go.RowKit Go.Proofs.YtgmglpnoppcnkaaW.PrintWords Go.Proofs.YtgmglpnoppcnkaaW.PrintLast Go.Proofs.YtgmglpnoppcnkaaW.PrintMore
set_option linter.unusedVariables false
set_option linter.unusedSimpArgs false

theorem mul_one_tab : ((List.range 65).all fun n => decide (PB.bits_Mul.f 1 (n : Int) = some (0, (n : Int)))) = true := by decide +kernel
theorem mul_one (n : Nat) (h : n ≤ 64) : PB.bits_Mul.f 1 (n : Int) = some (0, (n : Int)) := by
  have := List.all_eq_true.1 mul_one_tab n (List.mem_range.2 (by omega))
  exact of_decide_eq_true this

theorem made_zero (n : Nat) : madeCells (Value.int .i64 0).cells n = (List.replicate n (Value.int .i64 0)).toArray := by
  apply Array.ext
  · simp [madeCells]
  · intro j h1 h2
    simp [madeCells, Value.cells, Nat.mod_one]

theorem splice_rep {α : Type} (x z : α) (k n m : Nat) (hm : m = Nat.min k (n - k)) (hk : k ≤ n) :
    splice (List.replicate k x ++ List.replicate (n - k) z) k (List.replicate m x) = List.replicate (k + m) x ++ List.replicate (n - (k + m)) z := by
  have hm1 : m ≤ n - k := by rw [hm]; exact Nat.min_le_right _ _
  unfold splice
  rw [List.take_left' (by simp), List.drop_append]
  simp
  rw [← List.append_assoc, List.replicate_append_replicate]
  congr 2
  omega

theorem rep_one (x : Int) (m : Nat) : ∀ v ∈ List.replicate m (Value.int .i64 x), v.oneCell' = true := fun v hv => by rw [List.eq_of_mem_replicate hv]; rfl

theorem copy_src {w : World} {g k m : Nat} {x : Value} {rest : List Value} (h : w.heap[g]? = some (.cells (List.replicate k x ++ rest).toArray 3 (0, 0))) (hm : m ≤ k) {j : Nat} {v : Value} (hj : (List.replicate m x)[j]? = some v) : w.cell? ((⟨g, 0, none⟩ : Addr).add j) = some v := by
  have hjm : j < m := by have := (List.getElem?_eq_some_iff.1 hj).1; simpa using this
  have hv : x = v := by simpa [List.getElem?_replicate, hjm] using hj
  subst hv
  have := blk_cell h j
  have e : (⟨g, 0, none⟩ : Addr).add j = ⟨g, j, none⟩ := by simp only [Addr.add]; split <;> simp_all
  rw [e, this]
  simp [List.getElem?_append_left, List.getElem?_replicate, show j < k by omega]

def Hold (p : Prop) : Prop := p
theorem hold {p : Prop} (h : Hold p) : p := h

/-- make([]int, n): a new row of zeros, as an event. -/
theorem make_event {ops : Array Oper} {rest : List Oper} {o : Oper} {a : Act} {Q : Exit → Act → World → Prop} {W : World} (hgd : o.guard = none) {N : Tmp} (_hd : o.dst = some N) (l c : Operand)
    (ho : o.op = Op.makeSlice 33 l c) (n : Nat) (hl : a.eval l = .int .i64 n) (hc : a.eval c = .int .i64 n) (hn : n ≤ 1000000)
    (h : ∀ g, g = W.heap.size → ∀ w1, w1.heap[g]? = some (.cells (List.replicate n (Value.int .i64 0)).toArray 3 (0, 0)) → Below W.heap.size W w1 → wpList Try.prog ops Q rest (a.put o.dst (.slice (some ⟨g, 0, none⟩) n n)) w1) : wpList Try.prog ops Q (o :: rest) a W := by
  obtain ⟨i0, hi, hz0, hz1, hz2⟩ := info_parts PB.info3
  have hmk := run_make (P := Try.prog) W 33 3 i0 (.int .i64 0) Try.underlying33 hi hz0 .i64 .i64 n n (by omega) (by omega) (by rw [hz2]; omega) (by omega)
  rw [hz1, Int.toNat_natCast, Nat.mul_one, made_zero] at hmk
  refine Kd.event_run (v := .slice (some ⟨W.heap.size, 0, none⟩) n n) (w1 := W.alloc (.cells (List.replicate n (Value.int .i64 0)).toArray 3)) hgd ?_ (h _ rfl _ (blk_new W _) (below_alloc (Below.refl _ _) _))
  simp only [execOp, ho, hl, hc, Sem.run_bind, hmk, Result.andThen]
  rfl

set_option maxRecDepth 100000 in
set_option maxHeartbeats 1000000 in
theorem repeat_calls (x : Int) (n : Nat) (w : World) (a : Addr) (hn : 1 ≤ n) (hn2 : n ≤ 64) (hc : w.cell? a = some (.int .i64 x)) :
    Calls Try.prog 64 #[.slice (some a) 1 1, .int .i64 n] w fun e w' => (∃ g, e = .returned (.slice (some ⟨g, 0, none⟩) n n) ∧ w.heap.size ≤ g ∧ w'.heap[g]? = some (.cells (List.replicate n (Value.int .i64 x)).toArray 3 (0, 0))) ∧ Below w.heap.size w w' := by
  have hw1 : IntKind.u64.wrap (n : Int) = n := by unfold IntKind.wrap; simp [IntKind.bits, IntKind.signed]; omega
  have hw2 : IntKind.i64.wrap (n : Int) = n := by rw [i64_w]; unfold wrap64; omega
  have hd1 : decide ((n : Int) < 0) = false := by simp
  have hm := mul_one n hn2
  go_enter Try.func64, Try.ntmps64
  go_wp2_with fail
  refine (PB.bits_Mul.calls 1 n 0 n w hm).mono ?_
  rintro e w1 ⟨rfl, ⟨nd, rfl⟩⟩
  clear hm
  go_wp2_with ((with_reducible refine gate_dst (N := 30) rfl ?_); refine hold ?_)
  refine make_event rfl (N := 30) rfl (.tmp 29) (.tmp 29) rfl n rfl rfl (by omega) ?_
  intro g hg w2 hb2 hB2
  have hL2 := (pw_below_drewN (Below.refl w.heap.size w) nd).trans hB2
  have HB := Aside0.mk hb2
  have HL := Aside0.mk hL2
  have HG := Aside0.mk (show w.heap.size ≤ g by rw [hg]; exact Nat.le_refl _)
  have HC := Aside0.mk ((hL2.cell (World.block_lt_of_cell? w _ hc)).trans hc)
  clear hb2 hB2 hg hc hL2
  go_wp2_with ((with_reducible refine gate_dst (N := 33) rfl ?_); refine hold ?_)
  refine wpList_copy_splice rfl (.tmp 31) (.tmp 32) 33 33 rfl 3 Try.underlying33 (by kernel_rfl) (some ⟨g, 0, none⟩) (some a) n n 1 1 rfl rfl g 0 (List.replicate n (Value.int .i64 0)) 3 HB.out [.int .i64 x] ?c1 ?c2 ?c3 (by simp [Value.oneCell']) w.heap.size w HL.out HG.out ?_
  case c1 => simp [Nat.min_eq_left hn]
  case c2 => 
    intro _
    refine ⟨rfl, a, rfl, fun j v hj => ?_⟩
    cases j with
    | zero => simp at hj; subst hj; simpa [Addr.add] using HC.out
    | succ j => simp at hj
  case c3 => simp; omega
  intro w3 hb3 hL3
  have HB3 := Aside0.mk hb3.out
  have HL3 := Aside0.mk hL3
  clear hb3 hL3 HB HL HC
  have e1 : splice (List.replicate n (Value.int .i64 0)) 0 [Value.int .i64 x] = List.replicate 1 (Value.int .i64 x) ++ List.replicate (n - 1) (Value.int .i64 0) := by
    have := splice_rep (Value.int .i64 x) (Value.int .i64 0) 0 n 0 (by simp) (by omega)
    obtain ⟨m, rfl⟩ : ∃ m, n = m + 1 := ⟨n - 1, by omega⟩
    simp [splice, List.replicate_succ]
  rw [e1] at HB3
  clear e1
  go_wp2
  go_loopw [8] (fun v wr => ∃ k : Nat, 1 ≤ k ∧ k ≤ n ∧ v = .int .i64 k ∧ Aside0 (wr.heap[g]? = some (.cells (List.replicate k (Value.int .i64 x) ++ List.replicate (n - k) (Value.int .i64 0)).toArray 3 (0, 0))) ∧ Aside0 (Below w.heap.size w wr)) (fun v _ => n - (intOf v).toNat)
  case atStart => exact ⟨1, by omega, hn, rfl, HB3, HL3⟩
  case round =>
    obtain ⟨k, hk1, hk2, rfl, HBk, HLk⟩ := hrel
    clear HB3 HL3
    by_cases hkn : k < n
    · obtain ⟨m, hm⟩ : ∃ m, m = Nat.min k (n - k) := ⟨_, rfl⟩
      have hm1 : m ≤ n - k := by rw [hm]; exact Nat.min_le_right _ _
      have hm2 : m ≤ k := by rw [hm]; exact Nat.min_le_left _ _
      have hm3 : 1 ≤ m := by rw [hm]; exact Nat.le_min.2 ⟨hk1, by omega⟩
      have HM := Aside0.mk hm
      have hne : ¬ n = k := by omega
      have hsum : IntKind.i64.wrap ((k : Int) + (m : Int)) = (k : Int) + (m : Int) := by rw [i64_w]; unfold wrap64; omega
      clear hm
      have HS := Aside0.mk (splice_rep (Value.int .i64 x) (Value.int .i64 0) k n m HM.out hk2)
      have HBd := Aside0.mk (blk_drew HBk.out)
      have HLd := Aside0.mk (below_drew HLk.out)
      go_wp2
      go_region_law (refine step_copy_splice rfl (.tmp 41) (.tmp 44) 33 33 rfl 3 Try.underlying33 (by kernel_rfl) (some ⟨g, k, none⟩) (some ⟨g, 0, none⟩) (n - k) (n - k) k n (by go_simp) (by go_simp) g k (List.replicate k (Value.int .i64 x) ++ List.replicate (n - k) (Value.int .i64 0)) 3 HBd.out (List.replicate m (Value.int .i64 x)) (by simpa using HM.out) (fun _ => ⟨rfl, _, rfl, fun j v hj => copy_src HBd.out hm2 hj⟩) (by simp; omega) (rep_one x m) w.heap.size w HLd.out HG.out ?_; intro w4 hb4 hL4; have HB4 := Aside0.mk hb4.out; have HL4 := Aside0.mk hL4; clear hb4 hL4)
      rw [HS.out] at HB4
      clear HS HBk HLk HBd HLd HM
      simp [go_sem, Act.put]
      go_roundw
      case rel => (repeat apply Exists.intro); exact ⟨⟨k + m, by omega, by omega, by go_num, HB4, HL4⟩, rfl⟩
      case measure => simp [intOf, goInt]; omega
    · obtain rfl : k = n := by omega
      clear hkn
      go_wp2
      go_ret
      exact ⟨⟨g, rfl, HG.out, by simpa using HBk.out⟩, HLk.out⟩
end Go.Proofs.Ytgmglpnoppcnkaa
