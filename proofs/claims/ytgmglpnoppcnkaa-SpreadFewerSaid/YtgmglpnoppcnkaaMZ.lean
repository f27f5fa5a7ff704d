/- In all: SpreadFewer returns true for every input, and its arguments read afterwards as before. No condition. -/
import Derived.Test.YtgmglpnoppcnkaaMA
import Derived.Test.YtgmglpnoppcnkaaRows
import Derived.WalkKit
import Derived.ProofKit
import Derived.OpenShut
import Derived.ShutString
import Derived.ChangeOld
import Derived.Below
import Derived.SizedLaws
import Derived.Deep.Slices
import Derived.Deep.Fields
import Derived.Test.YtgmglpnoppcnkaaMF
section
namespace Go.Proofs.Ytgmglpnoppcnkaa
open Go.RowKit Go.Proofs.YtgmglpnoppcnkaaW.PrintWords Go.Proofs.YtgmglpnoppcnkaaW.PrintLast Go.Proofs.YtgmglpnoppcnkaaW.PrintMore
open Go.ChangeShapes Go.WideShapes Go.ChangeAt Go.Deep
set_option linter.unusedVariables false
set_option linter.unusedSimpArgs false
set_option maxRecDepth 100000

theorem own : ownKnob Try.prog.godebug = none := by kernel_rfl
theorem laidOut : laidOutB Try.prog = true := by kernel_rfl
theorem cellsOf3 : Try.prog.cellsOf 3 = 1 := by kernel_rfl
theorem cellsOf4 : Try.prog.cellsOf 4 = 1 := by kernel_rfl
theorem cellsOf30 : Try.prog.cellsOf 30 = 1 := by kernel_rfl
theorem cellsOf32 : Try.prog.cellsOf 32 = 3 := by kernel_rfl
theorem cellsOf41 : Try.prog.cellsOf 41 = 2 := by kernel_rfl
theorem cellsOf43 : Try.prog.cellsOf 43 = 3 := by kernel_rfl
theorem cellsOf71 : Try.prog.cellsOf 71 = 2 := by kernel_rfl
theorem cellsOf88 : Try.prog.cellsOf 88 = 6 := by kernel_rfl
theorem cellsOf94 : Try.prog.cellsOf 94 = 2 := by kernel_rfl

theorem list_of {α : Type} {n : Nat} {P : Nat → α → Prop} (h : ∀ i, i < n → ∃ y, P i y) : ∃ l : List α, l.length = n ∧ ∀ i y, l[i]? = some y → P i y := by
  induction n with
  | zero => exact ⟨[], rfl, fun i y h => by simp at h⟩
  | succ n ih =>
    obtain ⟨l, hl, hP⟩ := ih (fun i hi => h i (by omega))
    obtain ⟨y, hy⟩ := h n (by omega)
    refine ⟨l ++ [y], by simp [hl], fun i z hz => ?_⟩
    by_cases hi : i < n
    · rw [List.getElem?_append_left (by omega)] at hz
      exact hP i z hz
    · have : i = n := by
        have := (List.getElem?_eq_some_iff.1 hz).1
        simp [hl] at this
        omega
      subst this
      rw [List.getElem?_append_right (by omega), hl, Nat.sub_self] at hz
      cases hz
      exact hy
section
variable {H : Type} {enc : TypeId × Value → H} {w : World} {base : Nat} {spare : Nat → Bool} {held : Bool}
/-- An argument that is a slice of what Kd tells. -/
theorem open_rowK {α : Type} (d : Kd α) {t e : Nat} {v : Value} {x : DataW H} {p : List MemPlace} (ht : Try.prog.underlying t = some (.slice e)) (hC : Try.prog.cellsOf e = d.sz)
    (hread : ∀ (n : Nat) (cs : List Value) (x : DataW H × List MemPlace), DataW.trod enc Try.prog w base spare held n e cs = some x → ∃ y : α, d.K w y cs) (hv : ∃ a n c, v = .slice a n c) (h : DataW.Trod enc Try.prog w base spare held t v x p) :
    ∃ A c l, v = .slice A l.length c ∧ l.length ≤ c ∧ Kd.C d w A l.length l := by
  obtain ⟨a0, len0, cap0, rfl⟩ := hv
  obtain ⟨fuel, hf⟩ := h
  rcases open_slice ht hf with ⟨hcs, _⟩ | ⟨a, len, cap, m, n, D, Pl, hcs, hb, hl, hm, hmm, hx, hi⟩
  · simp [Value.cells] at hcs
    obtain ⟨rfl, rfl, rfl⟩ := hcs
    exact ⟨none, 0, [], rfl, Nat.le_refl _, rfl, by simp, fun h => by simp at h⟩
  · simp [Value.cells] at hcs
    obtain ⟨rfl, rfl, rfl⟩ := hcs
    have hlm : len0 ≤ m := by rw [hmm]; split <;> omega
    obtain ⟨l, hll, hP⟩ := list_of (n := len0) (P := fun i y => ∃ cs', d.K w y cs' ∧ ∀ j, j < d.sz → w.cell? ((a.add (i * d.sz)).add j) = cs'[j]?) (fun i hi0 => by
      obtain ⟨cs', hc, ht'⟩ := hi i (by omega)
      obtain ⟨y, hy⟩ := hread n cs' _ ht'
      obtain ⟨_, h2, h3⟩ := World.cells?_some hc
      rw [hC] at h3
      exact ⟨y, cs', hy, h3⟩)
    refine ⟨some a, cap0, l, by rw [hll], by omega, rfl, by unfold maxLen at hm; omega, fun _ => ⟨a, rfl, fun j y hj => ?_⟩⟩
    obtain ⟨cs', hK, hcell⟩ := hP j y hj
    refine ⟨cs', d.K_len hK, hK, fun i u hu => ?_⟩
    have hil : i < d.sz := by
      have := (List.getElem?_eq_some_iff.1 hu).1
      rw [d.K_len hK] at this
      exact this
    have := hcell i hil
    rw [hu] at this
    rw [← this]
    rw [← Go.Deep.add_add]
theorem fieldAt {t : Nat} {fs : Array Field} {n : Nat} {cs : List Value} {x : DataW H × List MemPlace} (hu : Try.prog.underlying t = some (.struct fs)) (h : DataW.trod enc Try.prog w base spare held n t cs = some x) (i ty off k : Nat)
    (hf : (fs[i]?).map (fun f => (f.type, f.offset)) = some (ty, off)) (hk : Try.prog.cellsOf ty = k) : ∃ m y, DataW.trod enc Try.prog w base spare held m ty ((cs.drop off).take k) = some y := by
  obtain ⟨xs, m, _, _, _, hxl, hg⟩ := DataW.trod_struct hu h
  cases hfi : fs[i]? with
  | none => rw [hfi] at hf; cases hf
  | some f =>
    rw [hfi] at hf
    simp only [Option.map_some, Option.some.injEq, Prod.mk.injEq] at hf
    have g := hg i f hfi
    have hil : i < xs.length := by
      have := (Array.getElem?_eq_some_iff.1 hfi).1
      omega
    rw [hf.1, hf.2, hk, List.getElem?_eq_getElem hil] at g
    exact ⟨m, _, g⟩
theorem cellsLen {t : Nat} {fs : Array Field} {n k : Nat} {cs : List Value} {x : DataW H × List MemPlace} (hu : Try.prog.underlying t = some (.struct fs)) (hC : Try.prog.cellsOf t = k) (h : DataW.trod enc Try.prog w base spare held n t cs = some x) : cs.length = k := by
  obtain ⟨xs, m, _, _, hl, _⟩ := DataW.trod_struct hu h
  rw [hl, hC]
/-- Two integers. -/
theorem read_two {t : Nat} {fs : Array Field} (hu : Try.prog.underlying t = some (.struct fs)) (hC : Try.prog.cellsOf t = 2) (h0 : (fs[0]?).map (fun f => (f.type, f.offset)) = some (3, 0)) (h1 : (fs[1]?).map (fun f => (f.type, f.offset)) = some (3, 1)) {n : Nat} {cs : List Value} {x : DataW H × List MemPlace}
    (h : DataW.trod enc Try.prog w base spare held n t cs = some x) : ∃ a b : Int, cs = [.int .i64 a, .int .i64 b] ∧ (Lit.int .i64 a).wf = true ∧ (Lit.int .i64 b).wf = true := by
  have hl := cellsLen hu hC h
  match cs, hl with
  | [c0, c1], _ =>
    obtain ⟨_, _, g0⟩ := fieldAt hu h 0 3 0 1 h0 cellsOf3
    obtain ⟨_, _, g1⟩ := fieldAt hu h 1 3 1 1 h1 cellsOf3
    obtain ⟨a, ha, _, wa⟩ := DataW.trod_int Try.underlying3 g0
    obtain ⟨b, hb, _, wb⟩ := DataW.trod_int Try.underlying3 g1
    simp at ha hb
    subst ha hb
    exact ⟨a, b, rfl, wa, wb⟩
theorem read41 {n : Nat} {cs : List Value} {x : DataW H × List MemPlace} (h : DataW.trod enc Try.prog w base spare held n 41 cs = some x) : ∃ y : PB.S41, PB.k41.K w y cs := by
  obtain ⟨a, b, rfl, _⟩ := read_two Try.underlying41 cellsOf41 rfl rfl h
  exact ⟨⟨a, b⟩, PB.k41_mk w ⟨a, b⟩⟩
theorem read71 {n : Nat} {cs : List Value} {x : DataW H × List MemPlace} (h : DataW.trod enc Try.prog w base spare held n 71 cs = some x) : ∃ y : PB.S41, PB.k41.K w y cs := by
  obtain ⟨a, b, rfl, _⟩ := read_two Try.underlying71 cellsOf71 rfl rfl h
  exact ⟨⟨a, b⟩, PB.k41_mk w ⟨a, b⟩⟩
theorem read94 {n : Nat} {cs : List Value} {x : DataW H × List MemPlace} (h : DataW.trod enc Try.prog w base spare held n 94 cs = some x) : ∃ y : PB.S41, PB.k41.K w y cs := by
  obtain ⟨a, b, rfl, _⟩ := read_two Try.underlying94 cellsOf94 rfl rfl h
  exact ⟨⟨a, b⟩, PB.k41_mk w ⟨a, b⟩⟩
theorem read88 {n : Nat} {cs : List Value} {x : DataW H × List MemPlace} (h : DataW.trod enc Try.prog w base spare held n 88 cs = some x) : ∃ y : PB.S88, PB.k88.K w y cs := by
  have hl := cellsLen Try.underlying88 cellsOf88 h
  match cs, hl with
  | [c0, c1, c2, c3, c4, c5], _ =>
    obtain ⟨_, _, g0⟩ := fieldAt Try.underlying88 h 0 3 0 1 rfl cellsOf3
    obtain ⟨_, _, g1⟩ := fieldAt Try.underlying88 h 1 3 1 1 rfl cellsOf3
    obtain ⟨_, _, g2⟩ := fieldAt Try.underlying88 h 2 41 2 2 rfl cellsOf41
    obtain ⟨_, _, g3⟩ := fieldAt Try.underlying88 h 3 3 4 1 rfl cellsOf3
    obtain ⟨_, _, g4⟩ := fieldAt Try.underlying88 h 4 4 5 1 rfl cellsOf4
    obtain ⟨a, ha, _⟩ := DataW.trod_int Try.underlying3 g0
    obtain ⟨b, hb, _⟩ := DataW.trod_int Try.underlying3 g1
    obtain ⟨p, q, hpq, _⟩ := read_two Try.underlying41 cellsOf41 rfl rfl g2
    obtain ⟨u, hu, _⟩ := DataW.trod_int Try.underlying3 g3
    obtain ⟨s, hs, _⟩ := DataW.trod_bool Try.underlying4 g4
    simp at ha hb hpq hu hs
    obtain ⟨rfl, rfl⟩ := hpq
    subst ha hb hu hs
    exact ⟨⟨a, b, ⟨p, q⟩, u, s⟩, PB.k88_mk w ⟨a, b, ⟨p, q⟩, u, s⟩⟩
theorem readInt {n : Nat} {cs : List Value} {x : DataW H × List MemPlace} (h : DataW.trod enc Try.prog w base spare held n 3 cs = some x) : ∃ y : Int, (Kd.int .i64).K w y cs := by
  obtain ⟨a, rfl, _⟩ := DataW.trod_int Try.underlying3 h
  exact ⟨a, rfl⟩
theorem open_ints33 {r : Reach} {b0 : Nat} {v : Value} {x : DataW H} {p : List MemPlace} (hv : Value.okWide Try.prog w r b0 33 v) (h : DataW.Trod enc Try.prog w base spare held 33 v x p) : ∃ A c l, v = .slice A l.length c ∧ l.length ≤ c ∧ IntsAt w A l :=
  open_rowK (Kd.int .i64) Try.underlying33 cellsOf3 (fun _ _ _ h => readInt h) (okWide_slice Try.underlying33 hv) h
theorem open_rcs66 {r : Reach} {b0 : Nat} {v : Value} {x : DataW H} {p : List MemPlace} (hv : Value.okWide Try.prog w r b0 66 v) (h : DataW.Trod enc Try.prog w base spare held 66 v x p) : ∃ A c l, v = .slice A l.length c ∧ l.length ≤ c ∧ DuesAt w A l :=
  open_rowK PB.k41 Try.underlying66 cellsOf71 (fun _ _ _ h => read71 h) (okWide_slice Try.underlying66 hv) h
/-- A network. -/
theorem open_net {r : Reach} {b0 : Nat} {v : Value} {x : DataW H} {p : List MemPlace} (hv : Value.okWide Try.prog w r b0 32 v) (h : DataW.Trod enc Try.prog w base spare held 32 v x p) :
    ∃ nn uu A c ls, v = .agg #[.int .i64 nn, .int .i64 uu, .slice A ls.length c] ∧ ls.length ≤ c ∧ LinksAt w A ls := by
  obtain ⟨cs, rfl, hsz⟩ := okWide_struct Try.underlying32 hv
  obtain ⟨fuel, hf⟩ := h
  obtain ⟨cs⟩ := cs
  simp only [Value.cells] at hf
  have hl := cellsLen Try.underlying32 cellsOf32 hf
  match cs, hl with
  | [c0, c1, c2], _ =>
    obtain ⟨_, _, g0⟩ := fieldAt Try.underlying32 hf 0 3 0 1 rfl cellsOf3
    obtain ⟨_, _, g1⟩ := fieldAt Try.underlying32 hf 1 3 1 1 rfl cellsOf3
    obtain ⟨m, _, g2⟩ := fieldAt Try.underlying32 hf 2 30 2 1 rfl cellsOf30
    obtain ⟨a, ha, _⟩ := DataW.trod_int Try.underlying3 g0
    obtain ⟨b, hb, _⟩ := DataW.trod_int Try.underlying3 g1
    simp at ha hb g2
    subst ha hb
    have hs : ∃ A n c, c2 = .slice A n c := by
      rcases open_slice Try.underlying30 g2 with ⟨hcs, _⟩ | ⟨a, len, cap, m, n, D, Pl, hcs, _⟩
      · simp at hcs; exact ⟨_, _, _, hcs⟩
      · simp at hcs; exact ⟨_, _, _, hcs⟩
    obtain ⟨A, n, c, rfl⟩ := hs
    obtain ⟨A', c', ls, e, hc, hC⟩ := open_rowK (e := 88) PB.k88 Try.underlying30 cellsOf88 (fun _ _ _ h => read88 h) ⟨A, n, c, rfl⟩ ⟨m, g2⟩
    cases e
    exact ⟨a, b, A, c, ls, rfl, hc, hC⟩
/-- A start. -/
theorem open_start {r : Reach} {b0 : Nat} {v : Value} {x : DataW H} {p : List MemPlace} (hv : Value.okWide Try.prog w r b0 43 v) (h : DataW.Trod enc Try.prog w base spare held 43 v x p) :
    ∃ sn lo hi, v = .agg #[.int .i64 sn, .int .i64 lo, .int .i64 hi] := by
  obtain ⟨cs, rfl, hsz⟩ := okWide_struct Try.underlying43 hv
  obtain ⟨fuel, hf⟩ := h
  obtain ⟨cs⟩ := cs
  simp only [Value.cells] at hf
  have hl := cellsLen Try.underlying43 cellsOf43 hf
  match cs, hl with
  | [c0, c1, c2], _ =>
    obtain ⟨_, _, g0⟩ := fieldAt Try.underlying43 hf 0 3 0 1 rfl cellsOf3
    obtain ⟨_, _, g1⟩ := fieldAt Try.underlying43 hf 1 41 1 2 rfl cellsOf41
    obtain ⟨a, ha, _⟩ := DataW.trod_int Try.underlying3 g0
    obtain ⟨p, q, hpq, _⟩ := read_two Try.underlying41 cellsOf41 rfl rfl g1
    simp at ha hpq
    obtain ⟨rfl, rfl⟩ := hpq
    subst ha
    exact ⟨a, p, q, rfl⟩
/-- A due. -/
theorem open_due {r : Reach} {b0 : Nat} {v : Value} {x : DataW H} {p : List MemPlace} (hv : Value.okWide Try.prog w r b0 94 v) (h : DataW.Trod enc Try.prog w base spare held 94 v x p) :
    ∃ a b, v = .agg #[.int .i64 a, .int .i64 b] := by
  obtain ⟨cs, rfl, hsz⟩ := okWide_struct Try.underlying94 hv
  obtain ⟨fuel, hf⟩ := h
  obtain ⟨cs⟩ := cs
  obtain ⟨p, q, hpq, _⟩ := read_two Try.underlying94 cellsOf94 rfl rfl hf
  simp only [Value.cells] at hpq
  subst hpq
  exact ⟨p, q, rfl⟩
theorem open_int3 {r : Reach} {b0 : Nat} {v : Value} {x : DataW H} {p : List MemPlace} (hv : Value.okWide Try.prog w r b0 3 v) (h : DataW.Trod enc Try.prog w base spare held 3 v x p) : ∃ n, v = .int .i64 n ∧ -9223372036854775808 ≤ n ∧ n ≤ 9223372036854775807 := by
  obtain ⟨n, rfl⟩ := okWide_int Try.underlying3 hv
  obtain ⟨fuel, hf⟩ := h
  obtain ⟨m, hm, _, hw⟩ := DataW.trod_int Try.underlying3 hf
  simp [Value.cells] at hm
  subst hm
  exact ⟨n, rfl, bounds_i64 hw⟩
end
end Go.Proofs.Ytgmglpnoppcnkaa
end
section
namespace Go.Proofs.Ytgmglpnoppcnkaa
open Go.RowKit Go.Proofs.YtgmglpnoppcnkaaW.PrintWords Go.Proofs.YtgmglpnoppcnkaaW.PrintLast Go.Proofs.YtgmglpnoppcnkaaW.PrintMore
open Go.ChangeShapes Go.WideShapes Go.ChangeAt Go.Deep
set_option linter.unusedVariables false
set_option linter.unusedSimpArgs false
set_option maxRecDepth 100000

theorem cellsOf82 : Try.prog.cellsOf 82 = 2 := by kernel_rfl
theorem cellsOf26 : Try.prog.cellsOf 26 = 1 := by kernel_rfl
section
variable {H : Type} {enc : TypeId × Value → H} {w : World} {base : Nat} {spare : Nat → Bool} {held : Bool}
theorem open_u8 {r : Reach} {b0 : Nat} {v : Value} {x : DataW H} {p : List MemPlace} (hv : Value.okWide Try.prog w r b0 5 v) (h : DataW.Trod enc Try.prog w base spare held 5 v x p) : ∃ n, v = .int .u8 n ∧ 0 ≤ n ∧ n ≤ 255 := by
  obtain ⟨n, rfl⟩ := okWide_int Try.underlying5 hv
  obtain ⟨fuel, hf⟩ := h
  obtain ⟨m, hm, _, hw⟩ := DataW.trod_int Try.underlying5 hf
  simp [Value.cells] at hm
  subst hm
  exact ⟨n, rfl, bounds_u8 hw⟩
theorem open_arr82 {r : Reach} {b0 : Nat} {v : Value} {x : DataW H} {p : List MemPlace} (hv : Value.okWide Try.prog w r b0 82 v) (h : DataW.Trod enc Try.prog w base spare held 82 v x p) : ∃ n m, v = .agg #[.int .u16 n, .int .u16 m] ∧ (0 ≤ n ∧ n ≤ 65535) ∧ 0 ≤ m ∧ m ≤ 65535 := by
  have hv' : ∃ cs, v = .agg cs ∧ cs.size = Try.prog.cellsOf 82 := by
    simp only [Value.okWide, Try.underlying82] at hv
    obtain ⟨cs, h1, h2, _⟩ := hv
    exact ⟨cs, h1, h2⟩
  obtain ⟨cs, rfl, hsz⟩ := hv'
  obtain ⟨fuel, hf⟩ := h
  obtain ⟨cs⟩ := cs
  simp only [Value.cells] at hf
  obtain ⟨xs, m, -, -, hl, hn, hx⟩ := DataW.trod_array Try.underlying82 hf
  rw [cellsOf82] at hl
  rw [cellsOf26] at hx
  match cs, hl with
  | [c0, c1], _ =>
    have h0 := hx 0 (by decide)
    have h1 := hx 1 (by decide)
    simp only [Nat.zero_mul, List.drop_zero, Nat.one_mul, List.drop_succ_cons, List.take_succ_cons, List.take_zero] at h0 h1
    rw [List.getElem?_eq_getElem (by omega)] at h0 h1
    obtain ⟨a, ha, _, hwa⟩ := DataW.trod_int Try.underlying26 h0
    obtain ⟨b, hb, _, hwb⟩ := DataW.trod_int Try.underlying26 h1
    simp at ha hb
    subst ha hb
    exact ⟨a, b, rfl, bounds_u16 hwa, bounds_u16 hwb⟩
end
end Go.Proofs.Ytgmglpnoppcnkaa
end
section
namespace Go.Proofs.Ytgmglpnoppcnkaa.spreadFewer
open Go.ChangeShapes Go.WideShapes Go.ChangeAt Go.RowKit
open Go.ChangeMaps (open_string shut_string)
set_option linter.unusedVariables false
set_option maxRecDepth 100000 in
theorem lifted (os : Os) (started : os.Started) (H : Type) (enc : TypeId × Value → H) :
    ReturnsInHanded {} Try.checked os 5 .any (Rows.spreadFewerSpec.pre6 enc Try.prog Try.f5 Rows.spreadFewerRow.domain false) (Rows.spreadFewerSpec.post enc Try.prog Try.f5 false true false false) := by
  refine returnsInHanded_of_change_sized (C := Try.checked) own started (by kernel_rfl) Try.func5
    (ChangeSpec.witness6 (enc := enc) (C := Try.checked) false ⟨#[], #[.agg #[.int .i64 0, .int .i64 0, .slice none 0 0], .agg #[.int .i64 0, .int .i64 0, .int .i64 0], .slice none 0 0, .int .i64 0, .int .u8 0, .int .u8 0, .agg #[.int .u16 0, .int .u16 0]], []⟩ 8 (by kernel_rfl) (by kernel_rfl) (by kernel_rfl) (by kernel_rfl)) ?_
  intro W base args ds gs before hval0 hW hcnd hsz0 _
  have hsz : (DataW.weightsEach Try.prog (Try.f5.params.toList ++ Rows.spreadFewerSpec.plain.varTypes Try.prog) (ds ++ gs)).all (· ≤ reachBytes) = true := hsz0
  have hval : ∀ (j : Nat) t v, Try.f5.params[j]? = some t → args[j]? = some v → Value.okWide Try.prog W .any base t v := hval0
  have hW' := hW
  obtain ⟨p, q, hA0, hV, rfl, hfz, hnd⟩ := hW
  have hA : DataW.TrodAll enc Try.prog W 0 (fun _ => true) true Try.f5.params.toList args.toList ds p := hA0
  rw [Try.params5] at hA hval hsz
  obtain ⟨v0, vs0, d0, ds0, p0, q0, hargs, rfl, rfl, h0, r0⟩ := trodAll_cons hA
  obtain ⟨v1, vs1, d1, ds1, p1, q1, rfl, rfl, rfl, h1, r1⟩ := trodAll_cons r0
  obtain ⟨v2, vs2, d2, ds2, p2, q2, rfl, rfl, rfl, h2, r2⟩ := trodAll_cons r1
  obtain ⟨v3, vs3, d3, ds3, p3, q3, rfl, rfl, rfl, h3, r3⟩ := trodAll_cons r2
  obtain ⟨v4, vs4, d4, ds4, p4, q4, rfl, rfl, rfl, h4, r4⟩ := trodAll_cons r3
  obtain ⟨v5, vs5, d5, ds5, p5, q5, rfl, rfl, rfl, h5, r5⟩ := trodAll_cons r4
  obtain ⟨v6, vs6, d6, ds6, p6, q6, rfl, rfl, rfl, h6, r6⟩ := trodAll_cons r5
  obtain ⟨rfl, rfl, rfl⟩ := trodAll_nil r6
  obtain rfl : args = #[v0, v1, v2, v3, v4, v5, v6] := by cases args; simp_all
  obtain ⟨rfl, rfl⟩ := trodVars_none hV
  have k0 := h0
  have lt0 : ∀ x ∈ p0, x.block < W.heap.size := by obtain ⟨m, hm⟩ := k0; exact DataW.trod_lt m _ _ _ hm
  obtain ⟨nn0, uu0, A0, c0, ls0, rfl, hc0, hC0⟩ := open_net (hval 0 32 v0 rfl rfl) h0
  have k1 := h1
  have lt1 : ∀ x ∈ p1, x.block < W.heap.size := by obtain ⟨m, hm⟩ := k1; exact DataW.trod_lt m _ _ _ hm
  obtain ⟨sn1, lo1, hi1, rfl⟩ := open_start (hval 1 43 v1 rfl rfl) h1
  have k2 := h2
  have lt2 : ∀ x ∈ p2, x.block < W.heap.size := by obtain ⟨m, hm⟩ := k2; exact DataW.trod_lt m _ _ _ hm
  obtain ⟨A2, c2, l2, rfl, hc2, hC2⟩ := open_ints33 (hval 2 33 v2 rfl rfl) h2
  have k3 := h3
  have lt3 : ∀ x ∈ p3, x.block < W.heap.size := by obtain ⟨m, hm⟩ := k3; exact DataW.trod_lt m _ _ _ hm
  obtain ⟨n3, rfl, hn3, hm3⟩ := open_int3 (hval 3 3 v3 rfl rfl) h3
  have k4 := h4
  have lt4 : ∀ x ∈ p4, x.block < W.heap.size := by obtain ⟨m, hm⟩ := k4; exact DataW.trod_lt m _ _ _ hm
  obtain ⟨n4, rfl, hn4⟩ := open_u8 (hval 4 5 v4 rfl rfl) h4
  have k5 := h5
  have lt5 : ∀ x ∈ p5, x.block < W.heap.size := by obtain ⟨m, hm⟩ := k5; exact DataW.trod_lt m _ _ _ hm
  obtain ⟨n5, rfl, hn5⟩ := open_u8 (hval 5 5 v5 rfl rfl) h5
  have k6 := h6
  have lt6 : ∀ x ∈ p6, x.block < W.heap.size := by obtain ⟨m, hm⟩ := k6; exact DataW.trod_lt m _ _ _ hm
  obtain ⟨n6, m6, rfl, hn6, hm6⟩ := open_arr82 (hval 6 82 v6 rfl rfl) h6
  clear hA0 hval0 hsz0 hsz
  refine (SpreadFewer_calls nn0 uu0 A0 c0 ls0 sn1 lo1 hi1 A2 c2 l2 n3 n4 n5 n6 m6 W hC0 hc0 hC2 hc2 hn4 hn5 hn6 hm6).mono fun e W' ⟨he, bel⟩ => ?_
  subst he
  exact ⟨_, rfl, _, _, _, [], _, [], hW', trodAll_mk1 (shut_bool Try.underlying4 _), (trodAll_cons_mk (Below.trod laidOut (by kernel_rfl) (of_decide_eq_true (by kernel_rfl)) k0 bel lt0) (trodAll_cons_mk (Below.trod laidOut (by kernel_rfl) (of_decide_eq_true (by kernel_rfl)) k1 bel lt1) (trodAll_cons_mk (Below.trod laidOut (by kernel_rfl) (of_decide_eq_true (by kernel_rfl)) k2 bel lt2) (trodAll_cons_mk (Below.trod laidOut (by kernel_rfl) (of_decide_eq_true (by kernel_rfl)) k3 bel lt3) (trodAll_cons_mk (Below.trod laidOut (by kernel_rfl) (of_decide_eq_true (by kernel_rfl)) k4 bel lt4) (trodAll_cons_mk (Below.trod laidOut (by kernel_rfl) (of_decide_eq_true (by kernel_rfl)) k5 bel lt5) (trodAll_cons_mk (Below.trod laidOut (by kernel_rfl) (of_decide_eq_true (by kernel_rfl)) k6 bel lt6) trodAll_mk0))))))), rfl, bel.frame _, fun h => by cases h⟩
theorem over : Rows.spreadFewerRow.holds Try.pinned (OpenSpec.ofChange Rows.spreadFewerSpec) :=
  OpenClaim.holds_of_wide 5 Try.f5 rfl rfl rfl rfl rfl rfl rfl ⟨rfl, rfl, rfl, rfl, rfl⟩ rfl rfl rfl rfl rfl (by kernel_rfl) Try.func5 (by kernel_rfl)
    (of_decide_eq_true (by kernel_rfl)) (by unfold Func.isWrapper; first | (rw [if_pos (by decide +kernel)]; kernel_rfl) | (rw [if_neg (by decide +kernel)]; exact ⟨rfl, rfl⟩))
    (fun os started H enc _ => lifted os started H enc)
theorem proved : Rows.SpreadFewerSaid := over
end Go.Proofs.Ytgmglpnoppcnkaa.spreadFewer
namespace Go.Proofs.Ytgmglpnoppcnkaa
/-- The row, under a short name, for the claim. -/
theorem spreadFewer_holds : Rows.SpreadFewerSaid := spreadFewer.proved
#print axioms spreadFewer_holds
end Go.Proofs.Ytgmglpnoppcnkaa
end
