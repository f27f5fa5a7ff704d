/- slices.Clone; choose and choices: what they hand back. -/
import Derived.Test.YtgmglpnoppcnkaaHA
import Derived.Test.YtgmglpnoppcnkaaR1
import Derived.Lib.SliceRun
namespace Go.Proofs.Ytgmglpnoppcnkaa
open Go.RowKit Go.Proofs.YtgmglpnoppcnkaaW.PrintWords Go.Proofs.YtgmglpnoppcnkaaW.PrintLast Go.Proofs.YtgmglpnoppcnkaaW.PrintMore
set_option linter.unusedVariables false
set_option linter.unusedSimpArgs false
set_option maxRecDepth 100000

theorem clone_nil (w : World) : Calls Try.prog 98 #[.slice none 0 0] w fun e w' => e = .returned (.slice none 0 0) ∧ Below w.heap.size w w' := by
  have q33 : ∀ (w : World) (a : Option Addr) (n c n' c' : Nat), (binOp .eql 33 (.slice a n c) (.slice none n' c')).run Try.prog w = .ok (.bool a.isNone) w := fun w a n c n' c' => Lib.run_eql_slice_nil w _ _ a n c n' c' Try.underlying33
  go_enter Try.func98, Try.ntmps98
  go_wp2
  go_ret
  exact ⟨rfl, Below.refl _ _⟩
theorem ints_news {w : World} {ad : Addr} {x : List Int} (h : IntsAt w (some ad) x) : ∀ j u, (ints x)[j]? = some u → w.cell? (ad.add j) = some u := fun j u hu => by
  have hj : j < x.length := by
    have := (List.getElem?_eq_some_iff.1 hu).1
    simpa [ints] using this
  obtain ⟨ad', e, hc⟩ := int_get h j hj
  cases e
  rw [hc]
  simpa [ints, hj] using hu
theorem ints_len (x : List Int) : (ints x).length = x.length := by simp [ints]
set_option maxHeartbeats 1000000 in
theorem clone_calls (ad : Addr) (c : Nat) (x : List Int) (w : World) (hx : IntsAt w (some ad) x) (h0 : 0 < x.length) (hb : x.length ≤ 100000) :
    Calls Try.prog 98 #[.slice (some ad) x.length c] w fun e w' => ∃ g cap, e = .returned (.slice (some ⟨g, 0, none⟩) x.length cap) ∧ w'.ownsRow w.heap.size 3 1 (.slice (some ⟨g, 0, none⟩) x.length cap) x.length (ints x) ∧ Below w.heap.size w w' := by
  obtain ⟨i3, hi3, hy0, hy1, hy2⟩ := info_parts info3
  have HX := Aside0.mk hx
  have hA : Below w.heap.size w (w.alloc (.cells #[] 3)) := below_alloc (Below.refl _ _) _
  have hown : (w.alloc (.cells #[] 3)).ownsRow w.heap.size 3 1 (.slice (some ⟨w.heap.size, 0, none⟩) 0 0) 0 [] := ⟨rfl, .inr ⟨w.heap.size, 0, #[], rfl, Nat.le_refl _, blk_new w _, Nat.le_refl _, by unfold maxLen; omega, rfl, rfl⟩⟩
  have HO := Aside0.mk (And.intro hA hown)
  have hnews := ints_news (Kd.C_below HX.out HO.out.1)
  have HN := Aside0.mk hnews
  clear hx hA hown hnews
  have q33 : ∀ (w : World) (a : Option Addr) (n c n' c' : Nat), (binOp .eql 33 (.slice a n c) (.slice none n' c')).run Try.prog w = .ok (.bool a.isNone) w := fun w a n c n' c' => Lib.run_eql_slice_nil w _ _ a n c n' c' Try.underlying33
  go_enter Try.func98, Try.ntmps98
  go_wp2_with ((with_reducible refine gate_dst (N := 7) rfl ?_); refine hold ?_)
  refine wpList_append_lies _ rfl (.tmp 5) (.tmp 6) 33 rfl w.heap.size 3 i3 _ 1 8 Try.underlying33 hi3 hy0 hy1 hy2 rfl (by decide) (.slice (some ⟨w.heap.size, 0, none⟩) 0 0) 0 [] (by go_simp) HO.out.2 ad x.length c (ints x) (by go_simp) (by rw [ints_len, Nat.mul_one]) HN.out (by
    intro u hu
    simp only [ints, List.mem_map] at hu
    obtain ⟨y, _, rfl⟩ := hu
    rfl) h0 (by unfold maxLen; omega) (by omega) (by exact HO.out.1.size) _ rfl ?_
  intro g cap w5 hown5 hg5 hor hlt5
  have HP : Aside0 (w5.ownsRow w.heap.size 3 1 (.slice (some ⟨g, 0, none⟩) x.length cap) x.length (ints x) ∧ Below w.heap.size w w5) := by
    refine ⟨by simpa using hown5, HO.out.1.trans ((Kp.grown hg5).below HO.out.1.size (fun k hk => own_base HO.out.2 k hk.symm))⟩
  clear hown5 hg5 hor hlt5
  simp only [Nat.zero_add]
  go_wp2
  go_ret
  exact ⟨g, cap, rfl, HP.out⟩

/-- The sets of k elements of a list, in order, behind some that are chosen already. -/
def chooseL : Nat → List Int → List Int → List (List Int)
  | 0, _, ch => [ch]
  | _ + 1, [], _ => []
  | k + 1, u :: r, ch => chooseL k r (ch ++ [u]) ++ chooseL (k + 1) r ch
termination_by k l => (k, l.length)
theorem chooseL_zero (l ch : List Int) : chooseL 0 l ch = [ch] := by rw [chooseL]
theorem chooseL_nil (k : Nat) (ch : List Int) : chooseL (k + 1) [] ch = [] := by rw [chooseL]
theorem chooseL_cons (k : Nat) (u : Int) (r ch : List Int) : chooseL (k + 1) (u :: r) ch = chooseL k r (ch ++ [u]) ++ chooseL (k + 1) r ch := by rw [chooseL]

set_option maxHeartbeats 1000000 in
/-- choose: its closure, with three boxes. -/
theorem choose_calls (v1 v2 : Value) (k : Int) (w : World) (h1 : ∃ A n c, v1 = .slice A n c) (h2 : ∃ A n c, v2 = .slice A n c) :
    Calls Try.prog 123 #[v1, .int .i64 k, v2] w fun e w' => ∃ lb kb cb, e = .returned (.func (.func 129) #[] #[.pointer (some ⟨kb, 0, none⟩), .pointer (some ⟨cb, 0, none⟩), .pointer (some ⟨lb, 0, none⟩)]) ∧ Below w.heap.size w w' ∧
      w'.heap[lb]? = some (.cells #[v1] 33 (0, 0)) ∧ w'.heap[kb]? = some (.cells #[.int .i64 k] 3 (0, 0)) ∧ w'.heap[cb]? = some (.cells #[v2] 33 (0, 0)) ∧ (w.heap.size ≤ lb ∧ w.heap.size ≤ kb ∧ w.heap.size ≤ cb) := by
  obtain ⟨A1, n1, c1, rfl⟩ := h1
  obtain ⟨A2, n2, c2, rfl⟩ := h2
  go_enter Try.func123, Try.ntmps123
  go_wp2_with ((with_reducible refine gate_dst (N := 3) rfl ?_); refine hold ?_)
  refine box_event rfl (N := 3) rfl (cs := #[.slice A1 n1 c1]) (t := 33) (by go_simp) ?_
  intro lb hlb w1 hb1 hB1
  have Hb1 := Aside0.mk (And.intro hb1 (And.intro hB1 (show w.heap.size ≤ lb by omega)))
  clear hlb hb1 hB1
  go_wp2_with ((with_reducible refine gate_dst (N := 4) rfl ?_); refine hold ?_)
  refine box_event rfl (N := 4) rfl (cs := #[.int .i64 k]) (t := 3) (by go_simp) ?_
  intro kb hkb w2 hb2 hB2
  have Hb2 := Aside0.mk (And.intro hb2 (And.intro hB2 (show w.heap.size ≤ kb by have := Hb1.out.2.1.size; omega)))
  clear hkb hb2 hB2
  go_wp2_with ((with_reducible refine gate_dst (N := 5) rfl ?_); refine hold ?_)
  refine box_event rfl (N := 5) rfl (cs := #[.slice A2 n2 c2]) (t := 33) (by go_simp) ?_
  intro cb hcb w3 hb3 hB3
  have Hb3 := Aside0.mk (And.intro hb3 (And.intro hB3 (show w.heap.size ≤ cb by have := Hb1.out.2.1.size; have := Hb2.out.2.1.size; omega)))
  clear hcb hb3 hB3
  go_wp2
  go_ret
  refine ⟨lb, kb, cb, rfl, below_step (below_step Hb1.out.2.1 Hb2.out.2.1) Hb3.out.2.1, blk_below (blk_below Hb1.out.1 Hb2.out.2.1) Hb3.out.2.1, blk_below Hb2.out.1 Hb3.out.2.1, Hb3.out.1, Hb1.out.2.2, Hb2.out.2.2, Hb3.out.2.2⟩
end Go.Proofs.Ytgmglpnoppcnkaa
