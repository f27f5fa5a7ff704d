/- Lemmas and contracts for the claim: part 2, brought together by program. -/
import Derived.Test.YtgmglpnoppcnkaaZR1
import Derived.Test.YtgmglpnoppcnkaaProg
import Derived.Below
import Derived.Deep.Draws
import Derived.Deep.AppendLies
import Derived.Maps.AppendAt
import Derived.OwnWalk
import Derived.Laws.BytesArg
import Derived.Laws.MakeOwn
import Derived.Laws.OwnMore
import Derived.Deep.OwnRows
import Derived.Tactics
import Derived.Lib.ConvBytes
import Derived.Laws.Slices
import Derived.WalkKit
import Derived.KernelRfl
import Derived.RowKit3
import Derived.Deep.LoopGhost
import Derived.Deep.QuietTactic
import Derived.BigQuiet
import Derived.WideLaws
import Derived.Deep.DeepCutAuto
import Derived.Deep.CutBlock
import Derived.Deep.RegionHeld3
import Derived.Laws.Rows
import Derived.Lib.AppendStr
import Derived.ArgAppend
import Derived.Laws.IdiomCopy
import Derived.OrdersHeld
import Derived.Laws.BitsLemmas
import Derived.RowKit
import Derived.Laws.CopyOwn
import Derived.Deep.RegionLaw
import Derived.WalkSpells
import Derived.WalkLawsBesides
import Derived.Deep.RegionWith
import Derived.BigRegion
import Derived.Carry
section
namespace Go.Proofs.Ytgmglpnoppcnkaa.PB
open Go.RowKit Go.Proofs.YtgmglpnoppcnkaaW.PrintWords Go.Proofs.YtgmglpnoppcnkaaW.PrintLast Go.Proofs.YtgmglpnoppcnkaaW.PrintMore
attribute [local go_sem] max2_int min2_int max_two min_two max_three min_three max_four min_four   -- for this text's walks alone
set_option linter.unusedVariables false
set_option linter.unusedSimpArgs false
def errW : Option Int → Value
  | none => .nilIface
  | some c => .iface 0 (.int .i64 c)
theorem errW_none : errW none = .nilIface := rfl
theorem errW_some (c : Int) : errW (some c) = .iface 0 (.int .i64 c) := rfl
theorem info3 : (Try.prog.info? 3).map (fun i => (i.zero, i.size, i.bytes)) = some (some (.int .i64 0), 1, 8) := by kernel_rfl
theorem info41 : (Try.prog.info? 41).map (fun i => (i.zero, i.size, i.bytes)) = some (some (.agg #[(.int .i64 0), (.int .i64 0)]), 2, 16) := by kernel_rfl
theorem info88 : (Try.prog.info? 88).map (fun i => (i.zero, i.size, i.bytes)) = some (some (.agg #[(.int .i64 0), (.int .i64 0), (.int .i64 0), (.int .i64 0), (.int .i64 0), (.bool false)]), 6, 48) := by kernel_rfl
structure S41 where
  f0 : Int
  f1 : Int
def z41 : S41 := ⟨(0 : Int), (0 : Int)⟩
def k41 : Kd S41 := Kd.iso (Kd.pair (Kd.int .i64) (Kd.int .i64)) (fun x : S41 => (x.f0, x.f1))
theorem k41_open {w : World} {x : S41} {cs : List Value} (h : k41.K w x cs) : cs = [.int .i64 x.f0, .int .i64 x.f1] := by
  obtain ⟨_, _, rfl, rfl, rfl⟩ := h
  exact rfl
theorem k41_mk (w : World) (x : S41)  : k41.K w x [.int .i64 x.f0, .int .i64 x.f1] := ⟨[.int .i64 x.f0], [.int .i64 x.f1], rfl, rfl, rfl⟩
theorem k41_mkM (w : World) (base : Nat) (ok : Nat → Prop) (x : S41)  : k41.M w base ok x [.int .i64 x.f0, .int .i64 x.f1] := ⟨[.int .i64 x.f0], [.int .i64 x.f1], rfl, rfl, rfl⟩
def rd_T41 (xs : List S41) (i : Int) : S41 := xs.getD i.toNat z41
theorem at_T41 {w : World} {A : Option Addr} {n : Nat} {xs : List S41} (h : Kd.C k41 w A n xs) (i : Int) (h0 : 0 ≤ i) (h1 : i < n) : ∃ ad , A = some ad ∧ w.cell? (ad.add (i.toNat * 2)) = some (.int .i64 (rd_T41 xs i).f0) ∧ w.cell? ⟨(ad.add (i.toNat * 2)).block, (ad.add (i.toNat * 2)).off + 1, none⟩ = some (.int .i64 (rd_T41 xs i).f1) := by
  obtain ⟨ad, c, e, _, hK, hc0⟩ := Kd.C_get h z41 i h0 h1
  have hc : ∀ j u, c[j]? = some u → w.cell? (ad.add (i.toNat * 2 + j)) = some u := hc0
  obtain rfl := k41_open hK
  exact ⟨ad, e, hc 0 _ rfl, by rw [← add_field _ _ 1 (by omega)]; exact hc 1 _ rfl⟩
structure S88 where
  f0 : Int
  f1 : Int
  f2 : S41
  f3 : Int
  f4 : Bool
def z88 : S88 := ⟨(0 : Int), (0 : Int), z41, (0 : Int), false⟩
def k88 : Kd S88 := Kd.iso (Kd.pair (Kd.int .i64) (Kd.pair (Kd.int .i64) (Kd.pair k41 (Kd.pair (Kd.int .i64) Kd.bool)))) (fun x : S88 => (x.f0, x.f1, x.f2, x.f3, x.f4))
theorem k88_open {w : World} {x : S88} {cs : List Value} (h : k88.K w x cs) : cs = [.int .i64 x.f0, .int .i64 x.f1, .int .i64 x.f2.f0, .int .i64 x.f2.f1, .int .i64 x.f3, .bool x.f4] := by
  obtain ⟨_, _, rfl, rfl, ⟨_, _, rfl, rfl, ⟨_, _, rfl, s2, ⟨_, _, rfl, rfl, rfl⟩⟩⟩⟩ := h
  obtain rfl := k41_open s2
  exact rfl
theorem k88_mk (w : World) (x : S88)  : k88.K w x [.int .i64 x.f0, .int .i64 x.f1, .int .i64 x.f2.f0, .int .i64 x.f2.f1, .int .i64 x.f3, .bool x.f4] := ⟨[.int .i64 x.f0], [.int .i64 x.f1, .int .i64 x.f2.f0, .int .i64 x.f2.f1, .int .i64 x.f3, .bool x.f4], rfl, rfl, ⟨[.int .i64 x.f1], [.int .i64 x.f2.f0, .int .i64 x.f2.f1, .int .i64 x.f3, .bool x.f4], rfl, rfl, ⟨[.int .i64 x.f2.f0, .int .i64 x.f2.f1], [.int .i64 x.f3, .bool x.f4], rfl, (k41_mk w x.f2 ), ⟨[.int .i64 x.f3], [.bool x.f4], rfl, rfl, rfl⟩⟩⟩⟩
theorem k88_mkM (w : World) (base : Nat) (ok : Nat → Prop) (x : S88)  : k88.M w base ok x [.int .i64 x.f0, .int .i64 x.f1, .int .i64 x.f2.f0, .int .i64 x.f2.f1, .int .i64 x.f3, .bool x.f4] := ⟨[.int .i64 x.f0], [.int .i64 x.f1, .int .i64 x.f2.f0, .int .i64 x.f2.f1, .int .i64 x.f3, .bool x.f4], rfl, rfl, ⟨[.int .i64 x.f1], [.int .i64 x.f2.f0, .int .i64 x.f2.f1, .int .i64 x.f3, .bool x.f4], rfl, rfl, ⟨[.int .i64 x.f2.f0, .int .i64 x.f2.f1], [.int .i64 x.f3, .bool x.f4], rfl, (k41_mkM w base ok x.f2 ), ⟨[.int .i64 x.f3], [.bool x.f4], rfl, rfl, rfl⟩⟩⟩⟩
def rd_T88 (xs : List S88) (i : Int) : S88 := xs.getD i.toNat z88
theorem at_T88 {w : World} {A : Option Addr} {n : Nat} {xs : List S88} (h : Kd.C k88 w A n xs) (i : Int) (h0 : 0 ≤ i) (h1 : i < n) : ∃ ad , A = some ad ∧ w.cell? (ad.add (i.toNat * 6)) = some (.int .i64 (rd_T88 xs i).f0) ∧ w.cell? ⟨(ad.add (i.toNat * 6)).block, (ad.add (i.toNat * 6)).off + 1, none⟩ = some (.int .i64 (rd_T88 xs i).f1) ∧ w.cell? ⟨(ad.add (i.toNat * 6)).block, (ad.add (i.toNat * 6)).off + 2, none⟩ = some (.int .i64 (rd_T88 xs i).f2.f0) ∧ w.cell? ⟨(ad.add (i.toNat * 6)).block, (ad.add (i.toNat * 6)).off + 3, none⟩ = some (.int .i64 (rd_T88 xs i).f2.f1) ∧ w.cell? ⟨(ad.add (i.toNat * 6)).block, (ad.add (i.toNat * 6)).off + 4, none⟩ = some (.int .i64 (rd_T88 xs i).f3) ∧ w.cell? ⟨(ad.add (i.toNat * 6)).block, (ad.add (i.toNat * 6)).off + 5, none⟩ = some (.bool (rd_T88 xs i).f4) := by
  obtain ⟨ad, c, e, _, hK, hc0⟩ := Kd.C_get h z88 i h0 h1
  have hc : ∀ j u, c[j]? = some u → w.cell? (ad.add (i.toNat * 6 + j)) = some u := hc0
  obtain rfl := k88_open hK
  exact ⟨ad, e, hc 0 _ rfl, by rw [← add_field _ _ 1 (by omega)]; exact hc 1 _ rfl, by rw [← add_field _ _ 2 (by omega)]; exact hc 2 _ rfl, by rw [← add_field _ _ 3 (by omega)]; exact hc 3 _ rfl, by rw [← add_field _ _ 4 (by omega)]; exact hc 4 _ rfl, by rw [← add_field _ _ 5 (by omega)]; exact hc 5 _ rfl⟩
end Go.Proofs.Ytgmglpnoppcnkaa.PB
end
section
namespace Go.Proofs.Ytgmglpnoppcnkaa.PB
open Go.RowKit Go.Proofs.YtgmglpnoppcnkaaW.PrintWords Go.Proofs.YtgmglpnoppcnkaaW.PrintLast Go.Proofs.YtgmglpnoppcnkaaW.PrintMore
attribute [local go_sem] max2_int min2_int max_two min_two max_three min_three max_four min_four   -- for this text's walks alone
set_option linter.unusedVariables false
set_option linter.unusedSimpArgs false
theorem eqA41 (d : Nat) (w : World) (x0 y0 : Int) (x1 y1 : Int) :
    (Op.equalIn (d + 2) 41 (.agg #[.int .i64 x0, .int .i64 x1]) (.agg #[.int .i64 y0, .int .i64 y1])).run Try.prog w = .ok (x0 == y0 && (x1 == y1)) w := by
  refine eqA_of Try.underlying41 (by kernel_rfl) ?_
  refine eqf_cons (by rfl) (by go_simp; rfl) (by go_simp; rfl) (by go_simp) ?_
  exact eqf_last (by rfl) (by go_simp; rfl) (by go_simp; rfl) (by go_simp)
end Go.Proofs.Ytgmglpnoppcnkaa.PB
end
section
namespace Go.Proofs.Ytgmglpnoppcnkaa.PB
open Go.RowKit Go.Proofs.YtgmglpnoppcnkaaW.PrintWords Go.Proofs.YtgmglpnoppcnkaaW.PrintLast Go.Proofs.YtgmglpnoppcnkaaW.PrintMore
attribute [local go_sem] max2_int min2_int max_two min_two max_three min_three max_four min_four   -- for this text's walks alone
set_option linter.unusedVariables false
set_option linter.unusedSimpArgs false
def spread_within.f (a0 : Int) (a1 : Int) (a2 : Int) : Option (Bool) := if a0 ≥ a1 then (some (decide (a0 ≤ a2))) else (some false)
set_option maxHeartbeats 8000000 in
set_option maxRecDepth 100000 in
theorem spread_within.calls (a0 : Int) (a1 : Int) (a2 : Int) (r : Bool) (w : World) (h : spread_within.f a0 a1 a2 = some r) :
    Calls Try.prog 72 #[.int .i64 a0, .int .i64 a1, .int .i64 a2] w fun e w' => e = .returned (.bool r) ∧ Drawn0 w w' := by
  have H : (if a0 ≥ a1 then (some (decide (a0 ≤ a2))) else (some false)) = some r := h
  clear h
  by_cases c4 : a0 ≥ a1
  · rw [if_pos c4] at H
    have c4b0 : decide (a1 ≤ a0) = true := decide_eq_true c4
    clear c4
    obtain rfl := Option.some.inj H
    go_enter Try.func72, Try.ntmps72
    go_wp2
    go_ret
    exact ⟨by first | rfl | (simp; done) | (simp [*]; done), by repeat (first | exact Drawn0.refl _ | apply Drawn0.step)⟩
  · rw [if_neg c4] at H
    have c4b0 : decide (a1 ≤ a0) = false := decide_eq_false c4
    clear c4
    obtain rfl := Option.some.inj H
    go_enter Try.func72, Try.ntmps72
    go_wp2
    go_ret
    exact ⟨by first | rfl | (simp; done) | (simp [*]; done), by repeat (first | exact Drawn0.refl _ | apply Drawn0.step)⟩
def spread_timed.f (a0_0 : Int) (a0_1 : Int) : Option (Bool) := if a0_0 ≥ 0 then (if a0_0 ≤ a0_1 then (some (decide (a0_1 ≤ 1000000000))) else (some false)) else (some false)
set_option maxHeartbeats 8000000 in
set_option maxRecDepth 100000 in
theorem spread_timed.calls (a0_0 : Int) (a0_1 : Int) (r : Bool) (w : World) (h : spread_timed.f a0_0 a0_1 = some r) :
    Calls Try.prog 87 #[.agg #[.int .i64 a0_0, .int .i64 a0_1]] w fun e w' => e = .returned (.bool r) ∧ Below w.heap.size w w' := by
  have hu41 := Try.underlying41
  have HB := Aside0.mk (Below.refl w.heap.size w)
  have H : (if a0_0 ≥ 0 then (if a0_0 ≤ a0_1 then (some (decide (a0_1 ≤ 1000000000))) else (some false)) else (some false)) = some r := h
  clear h
  by_cases c2 : a0_0 ≥ 0
  · rw [if_pos c2] at H
    have c2b0 : decide (0 ≤ a0_0) = true := decide_eq_true c2
    clear c2
    by_cases c3 : a0_0 ≤ a0_1
    · rw [if_pos c3] at H
      have c3b0 : decide (a0_0 ≤ a0_1) = true := decide_eq_true c3
      clear c3
      obtain rfl := Option.some.inj H
      go_enter Try.func87, Try.ntmps87
      go_wp2_with (first | ((with_reducible refine gate_dst (N := 1) rfl ?_); refine box_event ?hg (N := 1) ?hd (cs := #[.int .i64 a0_0, .int .i64 a0_1]) (t := 41) ?hr ?_; (case hd => rfl); (case hg => rfl); (case hr => first | (go_simp; done) | (go_simp; rfl)); intro gb101 hg w4 hbox hb; have n0_ := Aside0.mk (below_step (by repeat (first | (with_reducible first | exact HB.out | apply below_alloc | apply pw_below_drewN | apply below_drew1) | exact HB.out)) hb); have n1_ := Aside0.mk (hbox); have n2_ := Aside0.mk ((by rw [hg]; exact (below_size (by repeat (first | (with_reducible first | exact HB.out | apply below_alloc | apply pw_below_drewN | apply below_drew1) | exact HB.out))) : w.heap.size ≤ gb101)); have n3_ := Aside0.mk ((by rw [hg]; exact (below_size (by repeat (first | (with_reducible first | exact HB.out | apply below_alloc | apply pw_below_drewN | apply below_drew1) | exact HB.out))) : w.heap.size ≤ gb101)); clear HB; have HB := n0_; have BK101 := n1_; have GW101 := n2_; have GE101 := n3_; clear n0_ n1_ n2_ n3_; clear hb hbox hg; have hcz5_0 : w4.cell? ⟨gb101, 0, none⟩ = some (.int .i64 a0_0) := (blk_cell BK101.out 0).trans rfl; have hcz5_1 : w4.cell? ⟨gb101, 1, none⟩ = some (.int .i64 a0_1) := (blk_cell BK101.out 1).trans rfl; have hfz5_0 := blk_frozen BK101.out 0; have hfz5_1 := blk_frozen BK101.out 1))
      go_ret
      exact ⟨by first | rfl | (simp [errW_none, errW_some] <;> rfl) | (simp [*, errW_none, errW_some] <;> rfl), by repeat (first | (with_reducible first | exact HB.out | apply below_alloc | apply pw_below_drewN | apply below_drew1 | refine below_set ?_ GE101.out) | exact HB.out)⟩
    · rw [if_neg c3] at H
      have c3b0 : decide (a0_0 ≤ a0_1) = false := decide_eq_false c3
      clear c3
      obtain rfl := Option.some.inj H
      go_enter Try.func87, Try.ntmps87
      go_wp2_with (first | ((with_reducible refine gate_dst (N := 1) rfl ?_); refine box_event ?hg (N := 1) ?hd (cs := #[.int .i64 a0_0, .int .i64 a0_1]) (t := 41) ?hr ?_; (case hd => rfl); (case hg => rfl); (case hr => first | (go_simp; done) | (go_simp; rfl)); intro gb101 hg w6 hbox hb; have n0_ := Aside0.mk (below_step (by repeat (first | (with_reducible first | exact HB.out | apply below_alloc | apply pw_below_drewN | apply below_drew1) | exact HB.out)) hb); have n1_ := Aside0.mk (hbox); have n2_ := Aside0.mk ((by rw [hg]; exact (below_size (by repeat (first | (with_reducible first | exact HB.out | apply below_alloc | apply pw_below_drewN | apply below_drew1) | exact HB.out))) : w.heap.size ≤ gb101)); have n3_ := Aside0.mk ((by rw [hg]; exact (below_size (by repeat (first | (with_reducible first | exact HB.out | apply below_alloc | apply pw_below_drewN | apply below_drew1) | exact HB.out))) : w.heap.size ≤ gb101)); clear HB; have HB := n0_; have BK101 := n1_; have GW101 := n2_; have GE101 := n3_; clear n0_ n1_ n2_ n3_; clear hb hbox hg; have hcz7_0 : w6.cell? ⟨gb101, 0, none⟩ = some (.int .i64 a0_0) := (blk_cell BK101.out 0).trans rfl; have hcz7_1 : w6.cell? ⟨gb101, 1, none⟩ = some (.int .i64 a0_1) := (blk_cell BK101.out 1).trans rfl; have hfz7_0 := blk_frozen BK101.out 0; have hfz7_1 := blk_frozen BK101.out 1))
      go_ret
      exact ⟨by first | rfl | (simp [errW_none, errW_some] <;> rfl) | (simp [*, errW_none, errW_some] <;> rfl), by repeat (first | (with_reducible first | exact HB.out | apply below_alloc | apply pw_below_drewN | apply below_drew1 | refine below_set ?_ GE101.out) | exact HB.out)⟩
  · rw [if_neg c2] at H
    have c2b0 : decide (0 ≤ a0_0) = false := decide_eq_false c2
    clear c2
    obtain rfl := Option.some.inj H
    go_enter Try.func87, Try.ntmps87
    go_wp2_with (first | ((with_reducible refine gate_dst (N := 1) rfl ?_); refine box_event ?hg (N := 1) ?hd (cs := #[.int .i64 a0_0, .int .i64 a0_1]) (t := 41) ?hr ?_; (case hd => rfl); (case hg => rfl); (case hr => first | (go_simp; done) | (go_simp; rfl)); intro gb101 hg w8 hbox hb; have n0_ := Aside0.mk (below_step (by repeat (first | (with_reducible first | exact HB.out | apply below_alloc | apply pw_below_drewN | apply below_drew1) | exact HB.out)) hb); have n1_ := Aside0.mk (hbox); have n2_ := Aside0.mk ((by rw [hg]; exact (below_size (by repeat (first | (with_reducible first | exact HB.out | apply below_alloc | apply pw_below_drewN | apply below_drew1) | exact HB.out))) : w.heap.size ≤ gb101)); have n3_ := Aside0.mk ((by rw [hg]; exact (below_size (by repeat (first | (with_reducible first | exact HB.out | apply below_alloc | apply pw_below_drewN | apply below_drew1) | exact HB.out))) : w.heap.size ≤ gb101)); clear HB; have HB := n0_; have BK101 := n1_; have GW101 := n2_; have GE101 := n3_; clear n0_ n1_ n2_ n3_; clear hb hbox hg; have hcz9_0 : w8.cell? ⟨gb101, 0, none⟩ = some (.int .i64 a0_0) := (blk_cell BK101.out 0).trans rfl; have hcz9_1 : w8.cell? ⟨gb101, 1, none⟩ = some (.int .i64 a0_1) := (blk_cell BK101.out 1).trans rfl; have hfz9_0 := blk_frozen BK101.out 0; have hfz9_1 := blk_frozen BK101.out 1))
    go_ret
    exact ⟨by first | rfl | (simp [errW_none, errW_some] <;> rfl) | (simp [*, errW_none, errW_some] <;> rfl), by repeat (first | (with_reducible first | exact HB.out | apply below_alloc | apply pw_below_drewN | apply below_drew1 | refine below_set ?_ GE101.out) | exact HB.out)⟩
mutual
def spread_Check.j0 : Nat → Bool → Int → Int → List (S88) → Option (Int)
  | 0, _, _, _, _ => none
  | k + 1, x5, x103000, x103001, x103002 => if x5 = true then (some 3) else (if (x103002.length : Int) > 256 then (some 9) else (spread_Check.l0 k x103002 (x103002.length : Int) 0 x103000 x103001 x103002))
def spread_Check.l0 : Nat → List (S88) → Int → Int → Int → Int → List (S88) → Option (Int)
  | 0, _, _, _, _, _, _ => none
  | k + 1, x22, x23, x24, x103000, x103001, x103002 => if x24 < x23 then (if 0 ≤ x24 then (if x24 < (x22.length : Int) then ((spread_within.f ((rd_T88 x22 x24).f0) 0 (wrap64 (x103000 - 1))).bind fun t107 => (if t107 = true then ((spread_within.f ((rd_T88 x22 x24).f1) 0 (wrap64 (x103000 - 1))).bind fun t108 => (if t108 = true then ((spread_within.f ((rd_T88 x22 x24).f3) (-1) (wrap64 (x103001 - 1))).bind fun t109 => (spread_Check.j2 k x22 x23 x24 (!t109) x103000 x103001 x103002 ((rd_T88 x22 x24).f0) ((rd_T88 x22 x24).f1) ((rd_T88 x22 x24).f2.f0) ((rd_T88 x22 x24).f2.f1) ((rd_T88 x22 x24).f3) ((rd_T88 x22 x24).f4))) else (spread_Check.j2 k x22 x23 x24 true x103000 x103001 x103002 ((rd_T88 x22 x24).f0) ((rd_T88 x22 x24).f1) ((rd_T88 x22 x24).f2.f0) ((rd_T88 x22 x24).f2.f1) ((rd_T88 x22 x24).f3) ((rd_T88 x22 x24).f4)))) else (spread_Check.j2 k x22 x23 x24 true x103000 x103001 x103002 ((rd_T88 x22 x24).f0) ((rd_T88 x22 x24).f1) ((rd_T88 x22 x24).f2.f0) ((rd_T88 x22 x24).f2.f1) ((rd_T88 x22 x24).f3) ((rd_T88 x22 x24).f4)))) else (none)) else (none)) else (some 0)
def spread_Check.j2 : Nat → List (S88) → Int → Int → Bool → Int → Int → List (S88) → Int → Int → Int → Int → Int → Bool → Option (Int)
  | 0, _, _, _, _, _, _, _, _, _, _, _, _, _ => none
  | k + 1, x22, x23, x24, x28, x103000, x103001, x103002, x107000, x107001, x107002, x107003, x107004, x107005 => if x28 = true then (some 4) else (if x107000 = x107001 then (some 2) else ((spread_timed.f x107002 x107003).bind fun t110 => (if t110 = true then (spread_Check.l0 k x22 x23 (wrap64 (x24 + 1)) x103000 x103001 x103002) else (some 3))))
end
def spread_Check.f (k : Nat) (a0_0 : Int) (a0_1 : Int) (l0_2 : List (S88)) : Option (Int) := (spread_within.f a0_0 1 64).bind fun t103 => (if t103 = true then ((spread_within.f a0_1 0 20).bind fun t104 => (spread_Check.j0 k (!t104) a0_0 a0_1 l0_2)) else (spread_Check.j0 k true a0_0 a0_1 l0_2))
set_option maxHeartbeats 8000000 in
set_option maxRecDepth 100000 in
theorem spread_Check.calls (k : Nat) (a0_0 : Int) (a0_1 : Int) (A0_2 : Option Addr) (c0_2 : Nat) (l0_2 : List (S88)) (r : Int) (w : World) (hr0_2 : Kd.C k88 w A0_2 l0_2.length l0_2) (hc0_2 : l0_2.length ≤ c0_2) (h : spread_Check.f k a0_0 a0_1 l0_2 = some r) :
    Calls Try.prog 29 #[.agg #[.int .i64 a0_0, .int .i64 a0_1, .slice A0_2 l0_2.length c0_2]] w fun e w' => e = .returned (.int .i64 r) ∧ Below w.heap.size w w' := by
  have hu32 := Try.underlying32
  have hu88 := Try.underlying88
  have hu41 := Try.underlying41
  have HR0_2 := Aside0.mk hr0_2
  have HC0_2 := Aside0.mk hc0_2
  clear hr0_2 hc0_2
  have HB := Aside0.mk (Below.refl w.heap.size w)
  have H : ((spread_within.f a0_0 1 64).bind fun t103 => (if t103 = true then ((spread_within.f a0_1 0 20).bind fun t104 => (spread_Check.j0 k (!t104) a0_0 a0_1 l0_2)) else (spread_Check.j0 k true a0_0 a0_1 l0_2))) = some r := h
  clear h
  have HC2 := Aside0.mk H
  clear H
  go_enter Try.func29, Try.ntmps29
  go_upto_region 1 with (first | ((with_reducible refine gate_dst (N := 1) rfl ?_); refine box_event ?hg (N := 1) ?hd (cs := #[.int .i64 a0_0, .int .i64 a0_1, .slice A0_2 l0_2.length c0_2]) (t := 32) ?hr ?_; (case hd => rfl); (case hg => rfl); (case hr => first | (go_simp; done) | (go_simp; rfl)); intro gb102 hg w3 hbox hb; have n0_ := Aside0.mk (below_step (by repeat (first | (with_reducible first | exact HB.out | apply below_alloc | apply pw_below_drewN | apply below_drew1) | exact HB.out)) hb); have n1_ := Aside0.mk (hbox); have n2_ := Aside0.mk ((by rw [hg]; exact (below_size (by repeat (first | (with_reducible first | exact HB.out | apply below_alloc | apply pw_below_drewN | apply below_drew1) | exact HB.out))) : w.heap.size ≤ gb102)); have n3_ := Aside0.mk ((by rw [hg]; exact (below_size (by repeat (first | (with_reducible first | exact HB.out | apply below_alloc | apply pw_below_drewN | apply below_drew1) | exact HB.out))) : w.heap.size ≤ gb102)); clear HB; have HB := n0_; have BK102 := n1_; have GW102 := n2_; have GE102 := n3_; clear n0_ n1_ n2_ n3_; clear hb hbox hg))
  (try simp only [Act.put, List.setIfInBounds_toArray, List.set_cons_zero, List.set_cons_succ])
  go_cut [5] (fun v5 wc => ∃ (kq : Nat) (x5_1 : Bool), v5 = .bool x5_1 ∧ Aside0 (spread_Check.j0 kq x5_1 a0_0 a0_1 l0_2 = some r) ∧ Aside0 (kq ≤ k) ∧ Aside0 (wc.heap[gb102]? = some (.cells #[.int .i64 a0_0, .int .i64 a0_1, (.slice A0_2 l0_2.length c0_2)] 32 (0, 0))) ∧ Aside0 (Below w.heap.size w wc))
  case first =>
    have H := HC2.out
    clear HC2
    replace H := Option.bind_eq_some_iff.mp H
    obtain ⟨t103, A40, H⟩ := H
    replace H : (if t103 = true then ((spread_within.f a0_1 0 20).bind fun t104 => (spread_Check.j0 k (!t104) a0_0 a0_1 l0_2)) else (spread_Check.j0 k true a0_0 a0_1 l0_2)) = some r := H
    have A4 := Aside0.mk A40
    clear A40
    by_cases c5 : t103 = true
    · subst c5
      have H1 : ((spread_within.f a0_1 0 20).bind fun t104 => (spread_Check.j0 k (!t104) a0_0 a0_1 l0_2)) = some r := by rw [if_pos rfl] at H; exact H
      clear H
      have H := H1
      clear H1
      replace H := Option.bind_eq_some_iff.mp H
      obtain ⟨t104, A60, H⟩ := H
      replace H : (spread_Check.j0 k (!t104) a0_0 a0_1 l0_2) = some r := H
      have A6 := Aside0.mk A60
      clear A60
      have H' := Aside0.mk H
      clear H
      have hcz7_0 : w3.cell? ⟨gb102, 0, none⟩ = some (.int .i64 a0_0) := (blk_cell BK102.out 0).trans rfl
      have hcz7_1 : w3.cell? ⟨gb102, 1, none⟩ = some (.int .i64 a0_1) := (blk_cell BK102.out 1).trans rfl
      have hcz7_2 : w3.cell? ⟨gb102, 2, none⟩ = some (.slice A0_2 l0_2.length c0_2) := (blk_cell BK102.out 2).trans rfl
      have hfz7_0 := blk_frozen BK102.out 0
      have hfz7_1 := blk_frozen BK102.out 1
      have hfz7_2 := blk_frozen BK102.out 2
      go_wp2_with (first | ((with_reducible refine gate_callee (f := 72) rfl ?_); refine goesL_ (some 8) rfl rfl Try.func72 (by kernel_rfl) rfl #[.int .i64 a0_0, .int .i64 1, .int .i64 64] rfl (by (try simp only [List.map_toArray, List.map_cons, List.map_nil]); first | done | rfl | (simp only [List.length_drop, List.length_take]; rfl)) ?_; (with_reducible refine (spread_within.calls a0_0 1 64 true _ A4.out).mono ?_); rintro e w' ⟨rfl, ⟨nd, rfl⟩⟩; refine ⟨_, rfl, ?_⟩) | (go_at_call 72; (with_reducible refine (spread_within.calls a0_1 0 20 t104 _ A6.out).mono ?_); rintro e w' ⟨rfl, ⟨nd, rfl⟩⟩))
      go_meet
      case rel => exact ⟨_, (!t104), (by first | rfl | (simp; done) | (simp [*]; done)), H', ⟨by first | omega | exact Nat.le_refl _⟩, ⟨by (with_reducible repeat (first | refine blk_drewN ?_ _ | refine blk_drew ?_ | refine blk_alloc ?_ _)); exact BK102.out⟩, ⟨by repeat (first | (with_reducible first | exact HB.out | apply below_alloc | apply pw_below_drewN | apply below_drew1 | refine below_set ?_ GE102.out) | exact HB.out)⟩⟩
    · replace c5 := Bool.eq_false_iff.mpr c5
      subst c5
      have H1 : (spread_Check.j0 k true a0_0 a0_1 l0_2) = some r := by rw [if_neg (show ¬ (false = true) by decide)] at H; exact H
      clear H
      have H := H1
      clear H1
      have H' := Aside0.mk H
      clear H
      have hcz8_0 : w3.cell? ⟨gb102, 0, none⟩ = some (.int .i64 a0_0) := (blk_cell BK102.out 0).trans rfl
      have hcz8_1 : w3.cell? ⟨gb102, 1, none⟩ = some (.int .i64 a0_1) := (blk_cell BK102.out 1).trans rfl
      have hcz8_2 : w3.cell? ⟨gb102, 2, none⟩ = some (.slice A0_2 l0_2.length c0_2) := (blk_cell BK102.out 2).trans rfl
      have hfz8_0 := blk_frozen BK102.out 0
      have hfz8_1 := blk_frozen BK102.out 1
      have hfz8_2 := blk_frozen BK102.out 2
      go_wp2_with (first | ((with_reducible refine gate_callee (f := 72) rfl ?_); refine goesL_ (some 8) rfl rfl Try.func72 (by kernel_rfl) rfl #[.int .i64 a0_0, .int .i64 1, .int .i64 64] rfl (by (try simp only [List.map_toArray, List.map_cons, List.map_nil]); first | done | rfl | (simp only [List.length_drop, List.length_take]; rfl)) ?_; (with_reducible refine (spread_within.calls a0_0 1 64 false _ A4.out).mono ?_); rintro e w' ⟨rfl, ⟨nd, rfl⟩⟩; refine ⟨_, rfl, ?_⟩))
      go_meet
      case rel => exact ⟨_, (true), (by first | rfl | (simp; done) | (simp [*]; done)), H', ⟨by first | omega | exact Nat.le_refl _⟩, ⟨by (with_reducible repeat (first | refine blk_drewN ?_ _ | refine blk_drew ?_ | refine blk_alloc ?_ _)); exact BK102.out⟩, ⟨by repeat (first | (with_reducible first | exact HB.out | apply below_alloc | apply pw_below_drewN | apply below_drew1 | refine below_set ?_ GE102.out) | exact HB.out)⟩⟩
  case rest =>
    clear HC2
    try clear c2
    try clear p2
    try clear c5
    try clear c7
    try clear hcz7_0
    try clear hcz7_1
    try clear hcz7_2
    try clear hcz8_0
    try clear hcz8_1
    try clear hcz8_2
    try clear hfz7_0
    try clear hfz7_1
    try clear hfz7_2
    try clear hfz8_0
    try clear hfz8_1
    try clear hfz8_2
    obtain ⟨kq, x5_1, rfl, HA, HJ1, BK102, HB⟩ := hcut
    cases kq with
    | zero => exact absurd HA.out (by simp [spread_Check.j0])
    | succ kj1 =>
      have H := HA.out
      clear HA
      simp only [spread_Check.j0] at H
      by_cases c9 : x5_1 = true
      · subst c9
        have H1 : (some 3) = some r := by rw [if_pos rfl] at H; exact H
        clear H
        have H := H1
        clear H1
        obtain rfl := Option.some.inj H
        go_wp2
        go_ret
        exact ⟨by first | rfl | (simp [errW_none, errW_some] <;> rfl) | (simp [*, errW_none, errW_some] <;> rfl), by repeat (first | (with_reducible first | exact HB.out | apply below_alloc | apply pw_below_drewN | apply below_drew1 | refine below_set ?_ GE102.out) | exact HB.out)⟩
      · replace c9 := Bool.eq_false_iff.mpr c9
        subst c9
        have H1 : (if (l0_2.length : Int) > 256 then (some 9) else (spread_Check.l0 kj1 l0_2 (l0_2.length : Int) 0 a0_0 a0_1 l0_2)) = some r := by rw [if_neg (show ¬ (false = true) by decide)] at H; exact H
        clear H
        have H := H1
        clear H1
        by_cases c10 : (l0_2.length : Int) > 256
        · rw [if_pos c10] at H
          have c10b0 : decide (256 < (l0_2.length : Int)) = true := decide_eq_true c10
          have c10b1 : decide (256 < l0_2.length) = true := decide_eq_true (by omega)
          clear c10
          obtain rfl := Option.some.inj H
          have hcz11_0 : wc.cell? ⟨gb102, 0, none⟩ = some (.int .i64 a0_0) := (blk_cell BK102.out 0).trans rfl
          have hcz11_1 : wc.cell? ⟨gb102, 1, none⟩ = some (.int .i64 a0_1) := (blk_cell BK102.out 1).trans rfl
          have hcz11_2 : wc.cell? ⟨gb102, 2, none⟩ = some (.slice A0_2 l0_2.length c0_2) := (blk_cell BK102.out 2).trans rfl
          have hfz11_0 := blk_frozen BK102.out 0
          have hfz11_1 := blk_frozen BK102.out 1
          have hfz11_2 := blk_frozen BK102.out 2
          go_wp2
          go_ret
          exact ⟨by first | rfl | (simp [errW_none, errW_some] <;> rfl) | (simp [*, errW_none, errW_some] <;> rfl), by repeat (first | (with_reducible first | exact HB.out | apply below_alloc | apply pw_below_drewN | apply below_drew1 | refine below_set ?_ GE102.out) | exact HB.out)⟩
        · rw [if_neg c10] at H
          have c10b0 : decide (256 < (l0_2.length : Int)) = false := decide_eq_false c10
          have c10b1 : decide (256 < l0_2.length) = false := decide_eq_false (by omega)
          clear c10
          have H' := Aside0.mk H
          clear H
          have hcz12_0 : wc.cell? ⟨gb102, 0, none⟩ = some (.int .i64 a0_0) := (blk_cell BK102.out 0).trans rfl
          have hcz12_1 : wc.cell? ⟨gb102, 1, none⟩ = some (.int .i64 a0_1) := (blk_cell BK102.out 1).trans rfl
          have hcz12_2 : wc.cell? ⟨gb102, 2, none⟩ = some (.slice A0_2 l0_2.length c0_2) := (blk_cell BK102.out 2).trans rfl
          have hfz12_0 := blk_frozen BK102.out 0
          have hfz12_1 := blk_frozen BK102.out 1
          have hfz12_2 := blk_frozen BK102.out 2
          go_wp2
          go_loopg [24] kj1 (fun kq v24 w' => ∃ (x24_2 : Int), v24 = .int .i64 x24_2 ∧ Aside0 (spread_Check.l0 kq l0_2 (l0_2.length : Int) x24_2 a0_0 a0_1 l0_2 = some r) ∧ Aside0 (kq ≤ kj1) ∧ Aside0 (w'.heap[gb102]? = some (.cells #[.int .i64 a0_0, .int .i64 a0_1, (.slice A0_2 l0_2.length c0_2)] 32 (0, 0))) ∧ Aside0 (Below w.heap.size w w'))
          case atStart => exact ⟨(0), (by first | rfl | (simp; done) | (simp [*]; done)), H', ⟨Nat.le_refl _⟩, ⟨by (with_reducible repeat (first | refine blk_drewN ?_ _ | refine blk_drew ?_ | refine blk_alloc ?_ _)); exact BK102.out⟩, ⟨by repeat (first | (with_reducible first | exact HB.out | apply below_alloc | apply pw_below_drewN | apply below_drew1 | refine below_set ?_ GE102.out) | exact HB.out)⟩⟩
          case round =>
            clear H'
            try clear c1
            try clear c2
            try clear p2
            try clear c5
            try clear c7
            try clear c9
            try clear c10
            try clear c10b0
            try clear c10b1
            try clear hcz11_0
            try clear hcz11_1
            try clear hcz11_2
            try clear hcz12_0
            try clear hcz12_1
            try clear hcz12_2
            try clear hcz7_0
            try clear hcz7_1
            try clear hcz7_2
            try clear hcz8_0
            try clear hcz8_1
            try clear hcz8_2
            try clear hfz11_0
            try clear hfz11_1
            try clear hfz11_2
            try clear hfz12_0
            try clear hfz12_1
            try clear hfz12_2
            try clear hfz7_0
            try clear hfz7_1
            try clear hfz7_2
            try clear hfz8_0
            try clear hfz8_1
            try clear hfz8_2
            try clear p2
            obtain ⟨x24_2, rfl, HA, HK2, BK102, HB⟩ := hrel
            cases gk with
            | zero => exact absurd HA.out (by simp [spread_Check.l0])
            | succ k2 =>
              have H := HA.out
              clear HA
              simp only [spread_Check.l0] at H
              by_cases c13 : x24_2 < (l0_2.length : Int)
              · rw [if_pos c13] at H
                have c13b0 : decide (x24_2 < (l0_2.length : Int)) = true := decide_eq_true c13
                clear c13
                by_cases c14 : 0 ≤ x24_2
                · rw [if_pos c14] at H
                  have c14b0 : decide (0 ≤ x24_2) = true := decide_eq_true c14
                  clear c14
                  by_cases c15 : x24_2 < (l0_2.length : Int)
                  · rw [if_pos c15] at H
                    have c15b0 : decide (x24_2 < (l0_2.length : Int)) = true := decide_eq_true c15
                    clear c15
                    have HC16 := Aside0.mk H
                    clear H
                    have p105 : 0 ≤ (x24_2 : Int) := of_decide_eq_true (by first | (with_reducible assumption) | assumption)
                    have q105 : x24_2 < (l0_2.length : Int) := of_decide_eq_true (by first | (with_reducible assumption) | assumption)
                    obtain ⟨ad105, e105, hx105_0, hx105_1, hx105_2, hx105_3, hx105_4, hx105_5⟩ := at_T88 HR0_2.out x24_2 p105 q105
                    cases e105
                    replace hx105_0 := (HB.out.cell (World.block_lt_of_cell? w _ hx105_0)).trans hx105_0
                    replace hx105_1 := (HB.out.cell (World.block_lt_of_cell? w _ hx105_1)).trans hx105_1
                    replace hx105_2 := (HB.out.cell (World.block_lt_of_cell? w _ hx105_2)).trans hx105_2
                    replace hx105_3 := (HB.out.cell (World.block_lt_of_cell? w _ hx105_3)).trans hx105_3
                    replace hx105_4 := (HB.out.cell (World.block_lt_of_cell? w _ hx105_4)).trans hx105_4
                    replace hx105_5 := (HB.out.cell (World.block_lt_of_cell? w _ hx105_5)).trans hx105_5
                    replace p105 := eq_true p105
                    replace q105 := eq_true q105
                    go_upto_region 8 with (first | ((with_reducible refine gate_dst (N := 4) rfl ?_); refine box_event ?hg (N := 4) ?hd (cs := #[.int .i64 0, .int .i64 0, .int .i64 0, .int .i64 0, .int .i64 0, .bool false]) (t := 88) ?hr ?_; (case hd => rfl); (case hg => rfl); (case hr => first | (go_simp; done) | (go_simp; rfl)); intro gb106 hg w17 hbox hb; have n0_ := Aside0.mk (blk_below (g := gb102) (o := .cells #[.int .i64 a0_0, .int .i64 a0_1, .slice (some ad105) l0_2.length c0_2] 32 (0, 0)) (by (with_reducible repeat (first | refine blk_drewN ?_ _ | refine blk_drew ?_ | refine blk_alloc ?_ _)); exact BK102.out) hb); have n1_ := Aside0.mk (below_step (by repeat (first | (with_reducible first | exact HB.out | apply below_alloc | apply pw_below_drewN | apply below_drew1 | refine below_set ?_ GE102.out) | exact HB.out)) hb); have n2_ := Aside0.mk (hbox); have n3_ := Aside0.mk ((by rw [hg]; exact (below_size (by repeat (first | (with_reducible first | exact HB.out | apply below_alloc | apply pw_below_drewN | apply below_drew1 | refine below_set ?_ GE102.out) | exact HB.out))) : w.heap.size ≤ gb106)); have n4_ := Aside0.mk ((by rw [hg]; exact (below_size (by repeat (first | (with_reducible first | exact HB.out | apply below_alloc | apply pw_below_drewN | apply below_drew1 | refine below_set ?_ GE102.out) | exact HB.out))) : w.heap.size ≤ gb106)); have n5_ := Aside0.mk ((by rw [hg]; exact Nat.ne_of_lt (blk_lt (g := gb102) (o := .cells #[.int .i64 a0_0, .int .i64 a0_1, .slice (some ad105) l0_2.length c0_2] 32 (0, 0)) (by (with_reducible repeat (first | refine blk_drewN ?_ _ | refine blk_drew ?_ | refine blk_alloc ?_ _)); exact BK102.out)) : gb102 ≠ gb106)); have n6_ := Aside0.mk ((by rw [hg]; exact Nat.ne_of_gt (blk_lt (g := gb102) (o := .cells #[.int .i64 a0_0, .int .i64 a0_1, .slice (some ad105) l0_2.length c0_2] 32 (0, 0)) (by (with_reducible repeat (first | refine blk_drewN ?_ _ | refine blk_drew ?_ | refine blk_alloc ?_ _)); exact BK102.out)) : gb106 ≠ gb102)); clear BK102; clear HB; have BK102 := n0_; have HB := n1_; have BK106 := n2_; have GW106 := n3_; have GE106 := n4_; have NB102_106 := n5_; have NB106_102 := n6_; clear n0_ n1_ n2_ n3_ n4_ n5_ n6_; clear hb hbox hg; have hnb18 := NB106_102.out; have hnc18 := NB102_106.out; have hcz19_0 : w17.cell? ⟨gb106, 0, none⟩ = some (.int .i64 0) := (blk_cell BK106.out 0).trans rfl; have hcz19_1 : w17.cell? ⟨gb106, 1, none⟩ = some (.int .i64 0) := (blk_cell BK106.out 1).trans rfl; have hcz19_2 : w17.cell? ⟨gb106, 2, none⟩ = some (.int .i64 0) := (blk_cell BK106.out 2).trans rfl; have hcz19_3 : w17.cell? ⟨gb106, 3, none⟩ = some (.int .i64 0) := (blk_cell BK106.out 3).trans rfl; have hcz19_4 : w17.cell? ⟨gb106, 4, none⟩ = some (.int .i64 0) := (blk_cell BK106.out 4).trans rfl; have hcz19_5 : w17.cell? ⟨gb106, 5, none⟩ = some (.bool false) := (blk_cell BK106.out 5).trans rfl; have hfz19_0 := blk_frozen BK106.out 0; have hfz19_1 := blk_frozen BK106.out 1; have hfz19_2 := blk_frozen BK106.out 2; have hfz19_3 := blk_frozen BK106.out 3; have hfz19_4 := blk_frozen BK106.out 4; have hfz19_5 := blk_frozen BK106.out 5))
                    (try simp only [Act.put, List.setIfInBounds_toArray, List.set_cons_zero, List.set_cons_succ])
                    go_cut [28] (fun v28 wc => ∃ (kq : Nat) (x28_15 : Bool), v28 = .bool x28_15 ∧ Aside0 (spread_Check.j2 kq l0_2 (l0_2.length : Int) x24_2 x28_15 a0_0 a0_1 l0_2 ((rd_T88 l0_2 x24_2).f0) ((rd_T88 l0_2 x24_2).f1) ((rd_T88 l0_2 x24_2).f2.f0) ((rd_T88 l0_2 x24_2).f2.f1) ((rd_T88 l0_2 x24_2).f3) ((rd_T88 l0_2 x24_2).f4) = some r) ∧ Aside0 (kq ≤ k2) ∧ Aside0 (wc.heap[gb102]? = some (.cells #[.int .i64 a0_0, .int .i64 a0_1, (.slice (some ad105) l0_2.length c0_2)] 32 (0, 0))) ∧ Aside0 (wc.heap[gb106]? = some (.cells #[.int .i64 ((rd_T88 l0_2 x24_2).f0), .int .i64 ((rd_T88 l0_2 x24_2).f1), .int .i64 ((rd_T88 l0_2 x24_2).f2.f0), .int .i64 ((rd_T88 l0_2 x24_2).f2.f1), .int .i64 ((rd_T88 l0_2 x24_2).f3), .bool ((rd_T88 l0_2 x24_2).f4)] 88 (0, 0))) ∧ Aside0 (Below w.heap.size w wc))
                    case first =>
                      have H := HC16.out
                      clear HC16
                      replace H := Option.bind_eq_some_iff.mp H
                      obtain ⟨t107, A200, H⟩ := H
                      replace H : (if t107 = true then ((spread_within.f ((rd_T88 l0_2 x24_2).f1) 0 (wrap64 (a0_0 - 1))).bind fun t108 => (if t108 = true then ((spread_within.f ((rd_T88 l0_2 x24_2).f3) (-1) (wrap64 (a0_1 - 1))).bind fun t109 => (spread_Check.j2 k2 l0_2 (l0_2.length : Int) x24_2 (!t109) a0_0 a0_1 l0_2 ((rd_T88 l0_2 x24_2).f0) ((rd_T88 l0_2 x24_2).f1) ((rd_T88 l0_2 x24_2).f2.f0) ((rd_T88 l0_2 x24_2).f2.f1) ((rd_T88 l0_2 x24_2).f3) ((rd_T88 l0_2 x24_2).f4))) else (spread_Check.j2 k2 l0_2 (l0_2.length : Int) x24_2 true a0_0 a0_1 l0_2 ((rd_T88 l0_2 x24_2).f0) ((rd_T88 l0_2 x24_2).f1) ((rd_T88 l0_2 x24_2).f2.f0) ((rd_T88 l0_2 x24_2).f2.f1) ((rd_T88 l0_2 x24_2).f3) ((rd_T88 l0_2 x24_2).f4)))) else (spread_Check.j2 k2 l0_2 (l0_2.length : Int) x24_2 true a0_0 a0_1 l0_2 ((rd_T88 l0_2 x24_2).f0) ((rd_T88 l0_2 x24_2).f1) ((rd_T88 l0_2 x24_2).f2.f0) ((rd_T88 l0_2 x24_2).f2.f1) ((rd_T88 l0_2 x24_2).f3) ((rd_T88 l0_2 x24_2).f4))) = some r := H
                      have A20 := Aside0.mk A200
                      clear A200
                      by_cases c21 : t107 = true
                      · subst c21
                        have H1 : ((spread_within.f ((rd_T88 l0_2 x24_2).f1) 0 (wrap64 (a0_0 - 1))).bind fun t108 => (if t108 = true then ((spread_within.f ((rd_T88 l0_2 x24_2).f3) (-1) (wrap64 (a0_1 - 1))).bind fun t109 => (spread_Check.j2 k2 l0_2 (l0_2.length : Int) x24_2 (!t109) a0_0 a0_1 l0_2 ((rd_T88 l0_2 x24_2).f0) ((rd_T88 l0_2 x24_2).f1) ((rd_T88 l0_2 x24_2).f2.f0) ((rd_T88 l0_2 x24_2).f2.f1) ((rd_T88 l0_2 x24_2).f3) ((rd_T88 l0_2 x24_2).f4))) else (spread_Check.j2 k2 l0_2 (l0_2.length : Int) x24_2 true a0_0 a0_1 l0_2 ((rd_T88 l0_2 x24_2).f0) ((rd_T88 l0_2 x24_2).f1) ((rd_T88 l0_2 x24_2).f2.f0) ((rd_T88 l0_2 x24_2).f2.f1) ((rd_T88 l0_2 x24_2).f3) ((rd_T88 l0_2 x24_2).f4)))) = some r := by rw [if_pos rfl] at H; exact H
                        clear H
                        have H := H1
                        clear H1
                        replace H := Option.bind_eq_some_iff.mp H
                        obtain ⟨t108, A220, H⟩ := H
                        replace H : (if t108 = true then ((spread_within.f ((rd_T88 l0_2 x24_2).f3) (-1) (wrap64 (a0_1 - 1))).bind fun t109 => (spread_Check.j2 k2 l0_2 (l0_2.length : Int) x24_2 (!t109) a0_0 a0_1 l0_2 ((rd_T88 l0_2 x24_2).f0) ((rd_T88 l0_2 x24_2).f1) ((rd_T88 l0_2 x24_2).f2.f0) ((rd_T88 l0_2 x24_2).f2.f1) ((rd_T88 l0_2 x24_2).f3) ((rd_T88 l0_2 x24_2).f4))) else (spread_Check.j2 k2 l0_2 (l0_2.length : Int) x24_2 true a0_0 a0_1 l0_2 ((rd_T88 l0_2 x24_2).f0) ((rd_T88 l0_2 x24_2).f1) ((rd_T88 l0_2 x24_2).f2.f0) ((rd_T88 l0_2 x24_2).f2.f1) ((rd_T88 l0_2 x24_2).f3) ((rd_T88 l0_2 x24_2).f4))) = some r := H
                        have A22 := Aside0.mk A220
                        clear A220
                        by_cases c23 : t108 = true
                        · subst c23
                          have H1 : ((spread_within.f ((rd_T88 l0_2 x24_2).f3) (-1) (wrap64 (a0_1 - 1))).bind fun t109 => (spread_Check.j2 k2 l0_2 (l0_2.length : Int) x24_2 (!t109) a0_0 a0_1 l0_2 ((rd_T88 l0_2 x24_2).f0) ((rd_T88 l0_2 x24_2).f1) ((rd_T88 l0_2 x24_2).f2.f0) ((rd_T88 l0_2 x24_2).f2.f1) ((rd_T88 l0_2 x24_2).f3) ((rd_T88 l0_2 x24_2).f4))) = some r := by rw [if_pos rfl] at H; exact H
                          clear H
                          have H := H1
                          clear H1
                          replace H := Option.bind_eq_some_iff.mp H
                          obtain ⟨t109, A240, H⟩ := H
                          replace H : (spread_Check.j2 k2 l0_2 (l0_2.length : Int) x24_2 (!t109) a0_0 a0_1 l0_2 ((rd_T88 l0_2 x24_2).f0) ((rd_T88 l0_2 x24_2).f1) ((rd_T88 l0_2 x24_2).f2.f0) ((rd_T88 l0_2 x24_2).f2.f1) ((rd_T88 l0_2 x24_2).f3) ((rd_T88 l0_2 x24_2).f4)) = some r := H
                          have A24 := Aside0.mk A240
                          clear A240
                          have H' := Aside0.mk H
                          clear H
                          have hnb25 := NB106_102.out
                          have hnc25 := NB102_106.out
                          have hcz26_0 : w17.cell? ⟨gb106, 0, none⟩ = some (.int .i64 0) := (blk_cell BK106.out 0).trans rfl
                          have hcz26_1 : w17.cell? ⟨gb106, 1, none⟩ = some (.int .i64 0) := (blk_cell BK106.out 1).trans rfl
                          have hcz26_2 : w17.cell? ⟨gb106, 2, none⟩ = some (.int .i64 0) := (blk_cell BK106.out 2).trans rfl
                          have hcz26_3 : w17.cell? ⟨gb106, 3, none⟩ = some (.int .i64 0) := (blk_cell BK106.out 3).trans rfl
                          have hcz26_4 : w17.cell? ⟨gb106, 4, none⟩ = some (.int .i64 0) := (blk_cell BK106.out 4).trans rfl
                          have hcz26_5 : w17.cell? ⟨gb106, 5, none⟩ = some (.bool false) := (blk_cell BK106.out 5).trans rfl
                          have hfz26_0 := blk_frozen BK106.out 0
                          have hfz26_1 := blk_frozen BK106.out 1
                          have hfz26_2 := blk_frozen BK106.out 2
                          have hfz26_3 := blk_frozen BK106.out 3
                          have hfz26_4 := blk_frozen BK106.out 4
                          have hfz26_5 := blk_frozen BK106.out 5
                          have hcz27_0 : w17.cell? ⟨gb102, 0, none⟩ = some (.int .i64 a0_0) := (blk_cell BK102.out 0).trans rfl
                          have hcz27_1 : w17.cell? ⟨gb102, 1, none⟩ = some (.int .i64 a0_1) := (blk_cell BK102.out 1).trans rfl
                          have hcz27_2 : w17.cell? ⟨gb102, 2, none⟩ = some (.slice (some ad105) l0_2.length c0_2) := (blk_cell BK102.out 2).trans rfl
                          have hfz27_0 := blk_frozen BK102.out 0
                          have hfz27_1 := blk_frozen BK102.out 1
                          have hfz27_2 := blk_frozen BK102.out 2
                          go_wp2_with (first | ((with_reducible refine gate_callee (f := 72) rfl ?_); refine goesL_ (some 34) rfl rfl Try.func72 (by kernel_rfl) rfl #[.int .i64 ((rd_T88 l0_2 x24_2).f0), .int .i64 0, .int .i64 (wrap64 (a0_0 - 1))] rfl (by (try simp only [List.map_toArray, List.map_cons, List.map_nil]); first | done | rfl | (simp only [List.length_drop, List.length_take]; rfl)) ?_; (with_reducible refine (spread_within.calls ((rd_T88 l0_2 x24_2).f0) 0 (wrap64 (a0_0 - 1)) true _ A20.out).mono ?_); rintro e w' ⟨rfl, ⟨nd, rfl⟩⟩; refine ⟨_, rfl, ?_⟩) | (go_at_call 72; (with_reducible refine (spread_within.calls ((rd_T88 l0_2 x24_2).f1) 0 (wrap64 (a0_0 - 1)) true _ A22.out).mono ?_); rintro e w' ⟨rfl, ⟨nd, rfl⟩⟩) | (go_at_call 72; (with_reducible refine (spread_within.calls ((rd_T88 l0_2 x24_2).f3) (-1) (wrap64 (a0_1 - 1)) t109 _ A24.out).mono ?_); rintro e w' ⟨rfl, ⟨nd, rfl⟩⟩))
                          go_meet
                          case rel => exact ⟨_, (!t109), (by first | rfl | (simp; done) | (simp [*]; done)), H', ⟨by have := HJ1.out; have := HK2.out; first | omega | exact Nat.le_refl _⟩, ⟨by (with_reducible repeat (first | refine blk_drewN ?_ _ | refine blk_drew ?_ | refine blk_alloc ?_ _)); refine blk_far ?_ NB102_106.out _; (with_reducible repeat (first | refine blk_drewN ?_ _ | refine blk_drew ?_ | refine blk_alloc ?_ _)); refine blk_far ?_ NB102_106.out _; (with_reducible repeat (first | refine blk_drewN ?_ _ | refine blk_drew ?_ | refine blk_alloc ?_ _)); refine blk_far ?_ NB102_106.out _; (with_reducible repeat (first | refine blk_drewN ?_ _ | refine blk_drew ?_ | refine blk_alloc ?_ _)); refine blk_far ?_ NB102_106.out _; (with_reducible repeat (first | refine blk_drewN ?_ _ | refine blk_drew ?_ | refine blk_alloc ?_ _)); refine blk_far ?_ NB102_106.out _; (with_reducible repeat (first | refine blk_drewN ?_ _ | refine blk_drew ?_ | refine blk_alloc ?_ _)); refine blk_far ?_ NB102_106.out _; (with_reducible repeat (first | refine blk_drewN ?_ _ | refine blk_drew ?_ | refine blk_alloc ?_ _)); exact BK102.out⟩, ⟨by (with_reducible repeat (first | refine blk_drewN ?_ _ | refine blk_drew ?_ | refine blk_alloc ?_ _)); refine blk_put (cs := #[.int .i64 ((rd_T88 l0_2 x24_2).f0), .int .i64 ((rd_T88 l0_2 x24_2).f1), .int .i64 ((rd_T88 l0_2 x24_2).f2.f0), .int .i64 ((rd_T88 l0_2 x24_2).f2.f1), .int .i64 ((rd_T88 l0_2 x24_2).f3), .bool false]) ?_ 5 _ rfl; (with_reducible repeat (first | refine blk_drewN ?_ _ | refine blk_drew ?_ | refine blk_alloc ?_ _)); refine blk_put (cs := #[.int .i64 ((rd_T88 l0_2 x24_2).f0), .int .i64 ((rd_T88 l0_2 x24_2).f1), .int .i64 ((rd_T88 l0_2 x24_2).f2.f0), .int .i64 ((rd_T88 l0_2 x24_2).f2.f1), .int .i64 0, .bool false]) ?_ 4 _ rfl; (with_reducible repeat (first | refine blk_drewN ?_ _ | refine blk_drew ?_ | refine blk_alloc ?_ _)); refine blk_put (cs := #[.int .i64 ((rd_T88 l0_2 x24_2).f0), .int .i64 ((rd_T88 l0_2 x24_2).f1), .int .i64 ((rd_T88 l0_2 x24_2).f2.f0), .int .i64 0, .int .i64 0, .bool false]) ?_ 3 _ rfl; (with_reducible repeat (first | refine blk_drewN ?_ _ | refine blk_drew ?_ | refine blk_alloc ?_ _)); refine blk_put (cs := #[.int .i64 ((rd_T88 l0_2 x24_2).f0), .int .i64 ((rd_T88 l0_2 x24_2).f1), .int .i64 0, .int .i64 0, .int .i64 0, .bool false]) ?_ 2 _ rfl; (with_reducible repeat (first | refine blk_drewN ?_ _ | refine blk_drew ?_ | refine blk_alloc ?_ _)); refine blk_put (cs := #[.int .i64 ((rd_T88 l0_2 x24_2).f0), .int .i64 0, .int .i64 0, .int .i64 0, .int .i64 0, .bool false]) ?_ 1 _ rfl; (with_reducible repeat (first | refine blk_drewN ?_ _ | refine blk_drew ?_ | refine blk_alloc ?_ _)); refine blk_put (cs := #[.int .i64 0, .int .i64 0, .int .i64 0, .int .i64 0, .int .i64 0, .bool false]) ?_ 0 _ rfl; (with_reducible repeat (first | refine blk_drewN ?_ _ | refine blk_drew ?_ | refine blk_alloc ?_ _)); exact BK106.out⟩, ⟨by repeat (first | (with_reducible first | exact HB.out | apply below_alloc | apply pw_below_drewN | apply below_drew1 | refine below_set ?_ GE102.out | refine below_set ?_ GE106.out) | exact HB.out)⟩⟩
                        · replace c23 := Bool.eq_false_iff.mpr c23
                          subst c23
                          have H1 : (spread_Check.j2 k2 l0_2 (l0_2.length : Int) x24_2 true a0_0 a0_1 l0_2 ((rd_T88 l0_2 x24_2).f0) ((rd_T88 l0_2 x24_2).f1) ((rd_T88 l0_2 x24_2).f2.f0) ((rd_T88 l0_2 x24_2).f2.f1) ((rd_T88 l0_2 x24_2).f3) ((rd_T88 l0_2 x24_2).f4)) = some r := by rw [if_neg (show ¬ (false = true) by decide)] at H; exact H
                          clear H
                          have H := H1
                          clear H1
                          have H' := Aside0.mk H
                          clear H
                          have hnb28 := NB106_102.out
                          have hnc28 := NB102_106.out
                          have hcz29_0 : w17.cell? ⟨gb106, 0, none⟩ = some (.int .i64 0) := (blk_cell BK106.out 0).trans rfl
                          have hcz29_1 : w17.cell? ⟨gb106, 1, none⟩ = some (.int .i64 0) := (blk_cell BK106.out 1).trans rfl
                          have hcz29_2 : w17.cell? ⟨gb106, 2, none⟩ = some (.int .i64 0) := (blk_cell BK106.out 2).trans rfl
                          have hcz29_3 : w17.cell? ⟨gb106, 3, none⟩ = some (.int .i64 0) := (blk_cell BK106.out 3).trans rfl
                          have hcz29_4 : w17.cell? ⟨gb106, 4, none⟩ = some (.int .i64 0) := (blk_cell BK106.out 4).trans rfl
                          have hcz29_5 : w17.cell? ⟨gb106, 5, none⟩ = some (.bool false) := (blk_cell BK106.out 5).trans rfl
                          have hfz29_0 := blk_frozen BK106.out 0
                          have hfz29_1 := blk_frozen BK106.out 1
                          have hfz29_2 := blk_frozen BK106.out 2
                          have hfz29_3 := blk_frozen BK106.out 3
                          have hfz29_4 := blk_frozen BK106.out 4
                          have hfz29_5 := blk_frozen BK106.out 5
                          have hcz30_0 : w17.cell? ⟨gb102, 0, none⟩ = some (.int .i64 a0_0) := (blk_cell BK102.out 0).trans rfl
                          have hcz30_1 : w17.cell? ⟨gb102, 1, none⟩ = some (.int .i64 a0_1) := (blk_cell BK102.out 1).trans rfl
                          have hcz30_2 : w17.cell? ⟨gb102, 2, none⟩ = some (.slice (some ad105) l0_2.length c0_2) := (blk_cell BK102.out 2).trans rfl
                          have hfz30_0 := blk_frozen BK102.out 0
                          have hfz30_1 := blk_frozen BK102.out 1
                          have hfz30_2 := blk_frozen BK102.out 2
                          go_wp2_with (first | ((with_reducible refine gate_callee (f := 72) rfl ?_); refine goesL_ (some 34) rfl rfl Try.func72 (by kernel_rfl) rfl #[.int .i64 ((rd_T88 l0_2 x24_2).f0), .int .i64 0, .int .i64 (wrap64 (a0_0 - 1))] rfl (by (try simp only [List.map_toArray, List.map_cons, List.map_nil]); first | done | rfl | (simp only [List.length_drop, List.length_take]; rfl)) ?_; (with_reducible refine (spread_within.calls ((rd_T88 l0_2 x24_2).f0) 0 (wrap64 (a0_0 - 1)) true _ A20.out).mono ?_); rintro e w' ⟨rfl, ⟨nd, rfl⟩⟩; refine ⟨_, rfl, ?_⟩) | (go_at_call 72; (with_reducible refine (spread_within.calls ((rd_T88 l0_2 x24_2).f1) 0 (wrap64 (a0_0 - 1)) false _ A22.out).mono ?_); rintro e w' ⟨rfl, ⟨nd, rfl⟩⟩))
                          go_meet
                          case rel => exact ⟨_, (true), (by first | rfl | (simp; done) | (simp [*]; done)), H', ⟨by have := HJ1.out; have := HK2.out; first | omega | exact Nat.le_refl _⟩, ⟨by (with_reducible repeat (first | refine blk_drewN ?_ _ | refine blk_drew ?_ | refine blk_alloc ?_ _)); refine blk_far ?_ NB102_106.out _; (with_reducible repeat (first | refine blk_drewN ?_ _ | refine blk_drew ?_ | refine blk_alloc ?_ _)); refine blk_far ?_ NB102_106.out _; (with_reducible repeat (first | refine blk_drewN ?_ _ | refine blk_drew ?_ | refine blk_alloc ?_ _)); refine blk_far ?_ NB102_106.out _; (with_reducible repeat (first | refine blk_drewN ?_ _ | refine blk_drew ?_ | refine blk_alloc ?_ _)); refine blk_far ?_ NB102_106.out _; (with_reducible repeat (first | refine blk_drewN ?_ _ | refine blk_drew ?_ | refine blk_alloc ?_ _)); refine blk_far ?_ NB102_106.out _; (with_reducible repeat (first | refine blk_drewN ?_ _ | refine blk_drew ?_ | refine blk_alloc ?_ _)); refine blk_far ?_ NB102_106.out _; (with_reducible repeat (first | refine blk_drewN ?_ _ | refine blk_drew ?_ | refine blk_alloc ?_ _)); exact BK102.out⟩, ⟨by (with_reducible repeat (first | refine blk_drewN ?_ _ | refine blk_drew ?_ | refine blk_alloc ?_ _)); refine blk_put (cs := #[.int .i64 ((rd_T88 l0_2 x24_2).f0), .int .i64 ((rd_T88 l0_2 x24_2).f1), .int .i64 ((rd_T88 l0_2 x24_2).f2.f0), .int .i64 ((rd_T88 l0_2 x24_2).f2.f1), .int .i64 ((rd_T88 l0_2 x24_2).f3), .bool false]) ?_ 5 _ rfl; (with_reducible repeat (first | refine blk_drewN ?_ _ | refine blk_drew ?_ | refine blk_alloc ?_ _)); refine blk_put (cs := #[.int .i64 ((rd_T88 l0_2 x24_2).f0), .int .i64 ((rd_T88 l0_2 x24_2).f1), .int .i64 ((rd_T88 l0_2 x24_2).f2.f0), .int .i64 ((rd_T88 l0_2 x24_2).f2.f1), .int .i64 0, .bool false]) ?_ 4 _ rfl; (with_reducible repeat (first | refine blk_drewN ?_ _ | refine blk_drew ?_ | refine blk_alloc ?_ _)); refine blk_put (cs := #[.int .i64 ((rd_T88 l0_2 x24_2).f0), .int .i64 ((rd_T88 l0_2 x24_2).f1), .int .i64 ((rd_T88 l0_2 x24_2).f2.f0), .int .i64 0, .int .i64 0, .bool false]) ?_ 3 _ rfl; (with_reducible repeat (first | refine blk_drewN ?_ _ | refine blk_drew ?_ | refine blk_alloc ?_ _)); refine blk_put (cs := #[.int .i64 ((rd_T88 l0_2 x24_2).f0), .int .i64 ((rd_T88 l0_2 x24_2).f1), .int .i64 0, .int .i64 0, .int .i64 0, .bool false]) ?_ 2 _ rfl; (with_reducible repeat (first | refine blk_drewN ?_ _ | refine blk_drew ?_ | refine blk_alloc ?_ _)); refine blk_put (cs := #[.int .i64 ((rd_T88 l0_2 x24_2).f0), .int .i64 0, .int .i64 0, .int .i64 0, .int .i64 0, .bool false]) ?_ 1 _ rfl; (with_reducible repeat (first | refine blk_drewN ?_ _ | refine blk_drew ?_ | refine blk_alloc ?_ _)); refine blk_put (cs := #[.int .i64 0, .int .i64 0, .int .i64 0, .int .i64 0, .int .i64 0, .bool false]) ?_ 0 _ rfl; (with_reducible repeat (first | refine blk_drewN ?_ _ | refine blk_drew ?_ | refine blk_alloc ?_ _)); exact BK106.out⟩, ⟨by repeat (first | (with_reducible first | exact HB.out | apply below_alloc | apply pw_below_drewN | apply below_drew1 | refine below_set ?_ GE102.out | refine below_set ?_ GE106.out) | exact HB.out)⟩⟩
                      · replace c21 := Bool.eq_false_iff.mpr c21
                        subst c21
                        have H1 : (spread_Check.j2 k2 l0_2 (l0_2.length : Int) x24_2 true a0_0 a0_1 l0_2 ((rd_T88 l0_2 x24_2).f0) ((rd_T88 l0_2 x24_2).f1) ((rd_T88 l0_2 x24_2).f2.f0) ((rd_T88 l0_2 x24_2).f2.f1) ((rd_T88 l0_2 x24_2).f3) ((rd_T88 l0_2 x24_2).f4)) = some r := by rw [if_neg (show ¬ (false = true) by decide)] at H; exact H
                        clear H
                        have H := H1
                        clear H1
                        have H' := Aside0.mk H
                        clear H
                        have hnb31 := NB106_102.out
                        have hnc31 := NB102_106.out
                        have hcz32_0 : w17.cell? ⟨gb106, 0, none⟩ = some (.int .i64 0) := (blk_cell BK106.out 0).trans rfl
                        have hcz32_1 : w17.cell? ⟨gb106, 1, none⟩ = some (.int .i64 0) := (blk_cell BK106.out 1).trans rfl
                        have hcz32_2 : w17.cell? ⟨gb106, 2, none⟩ = some (.int .i64 0) := (blk_cell BK106.out 2).trans rfl
                        have hcz32_3 : w17.cell? ⟨gb106, 3, none⟩ = some (.int .i64 0) := (blk_cell BK106.out 3).trans rfl
                        have hcz32_4 : w17.cell? ⟨gb106, 4, none⟩ = some (.int .i64 0) := (blk_cell BK106.out 4).trans rfl
                        have hcz32_5 : w17.cell? ⟨gb106, 5, none⟩ = some (.bool false) := (blk_cell BK106.out 5).trans rfl
                        have hfz32_0 := blk_frozen BK106.out 0
                        have hfz32_1 := blk_frozen BK106.out 1
                        have hfz32_2 := blk_frozen BK106.out 2
                        have hfz32_3 := blk_frozen BK106.out 3
                        have hfz32_4 := blk_frozen BK106.out 4
                        have hfz32_5 := blk_frozen BK106.out 5
                        have hcz33_0 : w17.cell? ⟨gb102, 0, none⟩ = some (.int .i64 a0_0) := (blk_cell BK102.out 0).trans rfl
                        have hcz33_1 : w17.cell? ⟨gb102, 1, none⟩ = some (.int .i64 a0_1) := (blk_cell BK102.out 1).trans rfl
                        have hcz33_2 : w17.cell? ⟨gb102, 2, none⟩ = some (.slice (some ad105) l0_2.length c0_2) := (blk_cell BK102.out 2).trans rfl
                        have hfz33_0 := blk_frozen BK102.out 0
                        have hfz33_1 := blk_frozen BK102.out 1
                        have hfz33_2 := blk_frozen BK102.out 2
                        go_wp2_with (first | ((with_reducible refine gate_callee (f := 72) rfl ?_); refine goesL_ (some 34) rfl rfl Try.func72 (by kernel_rfl) rfl #[.int .i64 ((rd_T88 l0_2 x24_2).f0), .int .i64 0, .int .i64 (wrap64 (a0_0 - 1))] rfl (by (try simp only [List.map_toArray, List.map_cons, List.map_nil]); first | done | rfl | (simp only [List.length_drop, List.length_take]; rfl)) ?_; (with_reducible refine (spread_within.calls ((rd_T88 l0_2 x24_2).f0) 0 (wrap64 (a0_0 - 1)) false _ A20.out).mono ?_); rintro e w' ⟨rfl, ⟨nd, rfl⟩⟩; refine ⟨_, rfl, ?_⟩))
                        go_meet
                        case rel => exact ⟨_, (true), (by first | rfl | (simp; done) | (simp [*]; done)), H', ⟨by have := HJ1.out; have := HK2.out; first | omega | exact Nat.le_refl _⟩, ⟨by (with_reducible repeat (first | refine blk_drewN ?_ _ | refine blk_drew ?_ | refine blk_alloc ?_ _)); refine blk_far ?_ NB102_106.out _; (with_reducible repeat (first | refine blk_drewN ?_ _ | refine blk_drew ?_ | refine blk_alloc ?_ _)); refine blk_far ?_ NB102_106.out _; (with_reducible repeat (first | refine blk_drewN ?_ _ | refine blk_drew ?_ | refine blk_alloc ?_ _)); refine blk_far ?_ NB102_106.out _; (with_reducible repeat (first | refine blk_drewN ?_ _ | refine blk_drew ?_ | refine blk_alloc ?_ _)); refine blk_far ?_ NB102_106.out _; (with_reducible repeat (first | refine blk_drewN ?_ _ | refine blk_drew ?_ | refine blk_alloc ?_ _)); refine blk_far ?_ NB102_106.out _; (with_reducible repeat (first | refine blk_drewN ?_ _ | refine blk_drew ?_ | refine blk_alloc ?_ _)); refine blk_far ?_ NB102_106.out _; (with_reducible repeat (first | refine blk_drewN ?_ _ | refine blk_drew ?_ | refine blk_alloc ?_ _)); exact BK102.out⟩, ⟨by (with_reducible repeat (first | refine blk_drewN ?_ _ | refine blk_drew ?_ | refine blk_alloc ?_ _)); refine blk_put (cs := #[.int .i64 ((rd_T88 l0_2 x24_2).f0), .int .i64 ((rd_T88 l0_2 x24_2).f1), .int .i64 ((rd_T88 l0_2 x24_2).f2.f0), .int .i64 ((rd_T88 l0_2 x24_2).f2.f1), .int .i64 ((rd_T88 l0_2 x24_2).f3), .bool false]) ?_ 5 _ rfl; (with_reducible repeat (first | refine blk_drewN ?_ _ | refine blk_drew ?_ | refine blk_alloc ?_ _)); refine blk_put (cs := #[.int .i64 ((rd_T88 l0_2 x24_2).f0), .int .i64 ((rd_T88 l0_2 x24_2).f1), .int .i64 ((rd_T88 l0_2 x24_2).f2.f0), .int .i64 ((rd_T88 l0_2 x24_2).f2.f1), .int .i64 0, .bool false]) ?_ 4 _ rfl; (with_reducible repeat (first | refine blk_drewN ?_ _ | refine blk_drew ?_ | refine blk_alloc ?_ _)); refine blk_put (cs := #[.int .i64 ((rd_T88 l0_2 x24_2).f0), .int .i64 ((rd_T88 l0_2 x24_2).f1), .int .i64 ((rd_T88 l0_2 x24_2).f2.f0), .int .i64 0, .int .i64 0, .bool false]) ?_ 3 _ rfl; (with_reducible repeat (first | refine blk_drewN ?_ _ | refine blk_drew ?_ | refine blk_alloc ?_ _)); refine blk_put (cs := #[.int .i64 ((rd_T88 l0_2 x24_2).f0), .int .i64 ((rd_T88 l0_2 x24_2).f1), .int .i64 0, .int .i64 0, .int .i64 0, .bool false]) ?_ 2 _ rfl; (with_reducible repeat (first | refine blk_drewN ?_ _ | refine blk_drew ?_ | refine blk_alloc ?_ _)); refine blk_put (cs := #[.int .i64 ((rd_T88 l0_2 x24_2).f0), .int .i64 0, .int .i64 0, .int .i64 0, .int .i64 0, .bool false]) ?_ 1 _ rfl; (with_reducible repeat (first | refine blk_drewN ?_ _ | refine blk_drew ?_ | refine blk_alloc ?_ _)); refine blk_put (cs := #[.int .i64 0, .int .i64 0, .int .i64 0, .int .i64 0, .int .i64 0, .bool false]) ?_ 0 _ rfl; (with_reducible repeat (first | refine blk_drewN ?_ _ | refine blk_drew ?_ | refine blk_alloc ?_ _)); exact BK106.out⟩, ⟨by repeat (first | (with_reducible first | exact HB.out | apply below_alloc | apply pw_below_drewN | apply below_drew1 | refine below_set ?_ GE102.out | refine below_set ?_ GE106.out) | exact HB.out)⟩⟩
                    case rest =>
                      clear HC16
                      try clear c1
                      try clear p1
                      try clear q1
                      try clear hx1
                      try clear c2
                      try clear p2
                      try clear c3
                      try clear c5
                      try clear p6
                      try clear c7
                      try clear c9
                      try clear c10
                      try clear c10b0
                      try clear c10b1
                      try clear p10
                      try clear q10
                      try clear hx10
                      try clear c13
                      try clear c13b0
                      try clear c14
                      try clear c14b0
                      try clear c15
                      try clear c15b0
                      try clear c18
                      try clear c21
                      try clear c23
                      try clear c25
                      try clear c28
                      try clear c29
                      try clear c31
                      try clear hcz11_0
                      try clear hcz11_1
                      try clear hcz11_2
                      try clear hcz12_0
                      try clear hcz12_1
                      try clear hcz12_2
                      try clear hcz19_0
                      try clear hcz19_1
                      try clear hcz19_2
                      try clear hcz19_3
                      try clear hcz19_4
                      try clear hcz19_5
                      try clear hcz26_0
                      try clear hcz26_1
                      try clear hcz26_2
                      try clear hcz26_3
                      try clear hcz26_4
                      try clear hcz26_5
                      try clear hcz27_0
                      try clear hcz27_1
                      try clear hcz27_2
                      try clear hcz29_0
                      try clear hcz29_1
                      try clear hcz29_2
                      try clear hcz29_3
                      try clear hcz29_4
                      try clear hcz29_5
                      try clear hcz30_0
                      try clear hcz30_1
                      try clear hcz30_2
                      try clear hcz32_0
                      try clear hcz32_1
                      try clear hcz32_2
                      try clear hcz32_3
                      try clear hcz32_4
                      try clear hcz32_5
                      try clear hcz33_0
                      try clear hcz33_1
                      try clear hcz33_2
                      try clear hcz7_0
                      try clear hcz7_1
                      try clear hcz7_2
                      try clear hcz8_0
                      try clear hcz8_1
                      try clear hcz8_2
                      try clear hfz11_0
                      try clear hfz11_1
                      try clear hfz11_2
                      try clear hfz12_0
                      try clear hfz12_1
                      try clear hfz12_2
                      try clear hfz19_0
                      try clear hfz19_1
                      try clear hfz19_2
                      try clear hfz19_3
                      try clear hfz19_4
                      try clear hfz19_5
                      try clear hfz26_0
                      try clear hfz26_1
                      try clear hfz26_2
                      try clear hfz26_3
                      try clear hfz26_4
                      try clear hfz26_5
                      try clear hfz27_0
                      try clear hfz27_1
                      try clear hfz27_2
                      try clear hfz29_0
                      try clear hfz29_1
                      try clear hfz29_2
                      try clear hfz29_3
                      try clear hfz29_4
                      try clear hfz29_5
                      try clear hfz30_0
                      try clear hfz30_1
                      try clear hfz30_2
                      try clear hfz32_0
                      try clear hfz32_1
                      try clear hfz32_2
                      try clear hfz32_3
                      try clear hfz32_4
                      try clear hfz32_5
                      try clear hfz33_0
                      try clear hfz33_1
                      try clear hfz33_2
                      try clear hfz7_0
                      try clear hfz7_1
                      try clear hfz7_2
                      try clear hfz8_0
                      try clear hfz8_1
                      try clear hfz8_2
                      try clear hx105_0
                      try clear hx105_1
                      try clear hx105_2
                      try clear hx105_3
                      try clear hx105_4
                      try clear hx105_5
                      try clear p105
                      try clear p2
                      try clear q105
                      obtain ⟨kq, x28_15, rfl, HA, HJ15, BK102, BK106, HB⟩ := hcut
                      cases kq with
                      | zero => exact absurd HA.out (by simp [spread_Check.j2])
                      | succ kj15 =>
                        have H := HA.out
                        clear HA
                        simp only [spread_Check.j2] at H
                        by_cases c34 : x28_15 = true
                        · subst c34
                          have H1 : (some 4) = some r := by rw [if_pos rfl] at H; exact H
                          clear H
                          have H := H1
                          clear H1
                          obtain rfl := Option.some.inj H
                          go_wp2
                          go_ret
                          exact ⟨by first | rfl | (simp [errW_none, errW_some] <;> rfl) | (simp [*, errW_none, errW_some] <;> rfl), by repeat (first | (with_reducible first | exact HB.out | apply below_alloc | apply pw_below_drewN | apply below_drew1 | refine below_set ?_ GE102.out | refine below_set ?_ GE106.out) | exact HB.out)⟩
                        · replace c34 := Bool.eq_false_iff.mpr c34
                          subst c34
                          have H1 : (if ((rd_T88 l0_2 x24_2).f0) = ((rd_T88 l0_2 x24_2).f1) then (some 2) else ((spread_timed.f ((rd_T88 l0_2 x24_2).f2.f0) ((rd_T88 l0_2 x24_2).f2.f1)).bind fun t110 => (if t110 = true then (spread_Check.l0 kj15 l0_2 (l0_2.length : Int) (wrap64 (x24_2 + 1)) a0_0 a0_1 l0_2) else (some 3)))) = some r := by rw [if_neg (show ¬ (false = true) by decide)] at H; exact H
                          clear H
                          have H := H1
                          clear H1
                          by_cases c35 : ((rd_T88 l0_2 x24_2).f0) = ((rd_T88 l0_2 x24_2).f1)
                          · rw [if_pos c35] at H
                            have c35b0 : (((rd_T88 l0_2 x24_2).f0) == ((rd_T88 l0_2 x24_2).f1)) = true := beq_iff_eq.mpr c35
                            have c35b1 : (((rd_T88 l0_2 x24_2).f0) != ((rd_T88 l0_2 x24_2).f1)) = false := bne_eq_false_iff_eq.mpr c35
                            clear c35
                            obtain rfl := Option.some.inj H
                            have hnb36 := NB106_102.out
                            have hnc36 := NB102_106.out
                            have hcz37_0 : wc.cell? ⟨gb106, 0, none⟩ = some (.int .i64 ((rd_T88 l0_2 x24_2).f0)) := (blk_cell BK106.out 0).trans rfl
                            have hcz37_1 : wc.cell? ⟨gb106, 1, none⟩ = some (.int .i64 ((rd_T88 l0_2 x24_2).f1)) := (blk_cell BK106.out 1).trans rfl
                            have hcz37_2 : wc.cell? ⟨gb106, 2, none⟩ = some (.int .i64 ((rd_T88 l0_2 x24_2).f2.f0)) := (blk_cell BK106.out 2).trans rfl
                            have hcz37_3 : wc.cell? ⟨gb106, 3, none⟩ = some (.int .i64 ((rd_T88 l0_2 x24_2).f2.f1)) := (blk_cell BK106.out 3).trans rfl
                            have hcz37_4 : wc.cell? ⟨gb106, 4, none⟩ = some (.int .i64 ((rd_T88 l0_2 x24_2).f3)) := (blk_cell BK106.out 4).trans rfl
                            have hcz37_5 : wc.cell? ⟨gb106, 5, none⟩ = some (.bool ((rd_T88 l0_2 x24_2).f4)) := (blk_cell BK106.out 5).trans rfl
                            have hfz37_0 := blk_frozen BK106.out 0
                            have hfz37_1 := blk_frozen BK106.out 1
                            have hfz37_2 := blk_frozen BK106.out 2
                            have hfz37_3 := blk_frozen BK106.out 3
                            have hfz37_4 := blk_frozen BK106.out 4
                            have hfz37_5 := blk_frozen BK106.out 5
                            go_wp2
                            go_ret
                            exact ⟨by first | rfl | (simp [errW_none, errW_some] <;> rfl) | (simp [*, errW_none, errW_some] <;> rfl), by repeat (first | (with_reducible first | exact HB.out | apply below_alloc | apply pw_below_drewN | apply below_drew1 | refine below_set ?_ GE102.out | refine below_set ?_ GE106.out) | exact HB.out)⟩
                          · rw [if_neg c35] at H
                            have c35b0 : (((rd_T88 l0_2 x24_2).f0) == ((rd_T88 l0_2 x24_2).f1)) = false := beq_eq_false_iff_ne.mpr c35
                            have c35b1 : (((rd_T88 l0_2 x24_2).f0) != ((rd_T88 l0_2 x24_2).f1)) = true := bne_iff_ne.mpr c35
                            replace H := Option.bind_eq_some_iff.mp H
                            obtain ⟨t110, A380, H⟩ := H
                            replace H : (if t110 = true then (spread_Check.l0 kj15 l0_2 (l0_2.length : Int) (wrap64 (x24_2 + 1)) a0_0 a0_1 l0_2) else (some 3)) = some r := H
                            have A38 := Aside0.mk A380
                            clear A380
                            by_cases c39 : t110 = true
                            · subst c39
                              have H1 : (spread_Check.l0 kj15 l0_2 (l0_2.length : Int) (wrap64 (x24_2 + 1)) a0_0 a0_1 l0_2) = some r := by rw [if_pos rfl] at H; exact H
                              clear H
                              have H := H1
                              clear H1
                              have H' := Aside0.mk H
                              clear H
                              have hnb40 := NB106_102.out
                              have hnc40 := NB102_106.out
                              have hcz41_0 : wc.cell? ⟨gb106, 0, none⟩ = some (.int .i64 ((rd_T88 l0_2 x24_2).f0)) := (blk_cell BK106.out 0).trans rfl
                              have hcz41_1 : wc.cell? ⟨gb106, 1, none⟩ = some (.int .i64 ((rd_T88 l0_2 x24_2).f1)) := (blk_cell BK106.out 1).trans rfl
                              have hcz41_2 : wc.cell? ⟨gb106, 2, none⟩ = some (.int .i64 ((rd_T88 l0_2 x24_2).f2.f0)) := (blk_cell BK106.out 2).trans rfl
                              have hcz41_3 : wc.cell? ⟨gb106, 3, none⟩ = some (.int .i64 ((rd_T88 l0_2 x24_2).f2.f1)) := (blk_cell BK106.out 3).trans rfl
                              have hcz41_4 : wc.cell? ⟨gb106, 4, none⟩ = some (.int .i64 ((rd_T88 l0_2 x24_2).f3)) := (blk_cell BK106.out 4).trans rfl
                              have hcz41_5 : wc.cell? ⟨gb106, 5, none⟩ = some (.bool ((rd_T88 l0_2 x24_2).f4)) := (blk_cell BK106.out 5).trans rfl
                              have hfz41_0 := blk_frozen BK106.out 0
                              have hfz41_1 := blk_frozen BK106.out 1
                              have hfz41_2 := blk_frozen BK106.out 2
                              have hfz41_3 := blk_frozen BK106.out 3
                              have hfz41_4 := blk_frozen BK106.out 4
                              have hfz41_5 := blk_frozen BK106.out 5
                              go_wp2_with (first | ((with_reducible refine gate_callee (f := 87) rfl ?_); refine goesL_ (some 63) rfl rfl Try.func87 (by kernel_rfl) rfl #[.agg #[.int .i64 ((rd_T88 l0_2 x24_2).f2.f0), .int .i64 ((rd_T88 l0_2 x24_2).f2.f1)]] rfl (by (try simp only [List.map_toArray, List.map_cons, List.map_nil]); first | done | rfl | (simp only [List.length_drop, List.length_take]; rfl)) ?_; (with_reducible refine (spread_timed.calls ((rd_T88 l0_2 x24_2).f2.f0) ((rd_T88 l0_2 x24_2).f2.f1) true _ A38.out).mono ?_); rintro e w42 ⟨rfl, hb⟩; refine ⟨_, rfl, ?_⟩; have n0_ := Aside0.mk (blk_below (g := gb102) (o := .cells #[.int .i64 a0_0, .int .i64 a0_1, .slice (some ad105) l0_2.length c0_2] 32 (0, 0)) (by (with_reducible repeat (first | refine blk_drewN ?_ _ | refine blk_drew ?_ | refine blk_alloc ?_ _)); exact BK102.out) hb); have n1_ := Aside0.mk (blk_below (g := gb106) (o := .cells #[.int .i64 ((rd_T88 l0_2 x24_2).f0), .int .i64 ((rd_T88 l0_2 x24_2).f1), .int .i64 ((rd_T88 l0_2 x24_2).f2.f0), .int .i64 ((rd_T88 l0_2 x24_2).f2.f1), .int .i64 ((rd_T88 l0_2 x24_2).f3), .bool ((rd_T88 l0_2 x24_2).f4)] 88 (0, 0)) (by (with_reducible repeat (first | refine blk_drewN ?_ _ | refine blk_drew ?_ | refine blk_alloc ?_ _)); exact BK106.out) hb); have n2_ := Aside0.mk (below_step (by repeat (first | (with_reducible first | exact HB.out | apply below_alloc | apply pw_below_drewN | apply below_drew1 | refine below_set ?_ GE102.out | refine below_set ?_ GE106.out) | exact HB.out)) hb); clear BK102; clear BK106; clear HB; have BK102 := n0_; have BK106 := n1_; have HB := n2_; clear n0_ n1_ n2_; (try clear hb); (try clear hb2); (try clear hk); (try clear hi)))
                              go_roundg kj15
                              case measure => have := HJ1.out; have := HK2.out; have := HJ15.out; omega
                              case rel => exact ⟨(wrap64 (x24_2 + 1)), (by first | rfl | (simp; done) | (simp [*]; done)), H', ⟨by have := HJ1.out; have := HK2.out; have := HJ15.out; omega⟩, ⟨by (with_reducible repeat (first | refine blk_drewN ?_ _ | refine blk_drew ?_ | refine blk_alloc ?_ _)); exact BK102.out⟩, ⟨by repeat (first | (with_reducible first | exact HB.out | apply below_alloc | apply pw_below_drewN | apply below_drew1 | refine below_set ?_ GE102.out | refine below_set ?_ GE106.out) | exact HB.out)⟩⟩
                            · replace c39 := Bool.eq_false_iff.mpr c39
                              subst c39
                              have H1 : (some 3) = some r := by rw [if_neg (show ¬ (false = true) by decide)] at H; exact H
                              clear H
                              have H := H1
                              clear H1
                              obtain rfl := Option.some.inj H
                              have hnb43 := NB106_102.out
                              have hnc43 := NB102_106.out
                              have hcz44_0 : wc.cell? ⟨gb106, 0, none⟩ = some (.int .i64 ((rd_T88 l0_2 x24_2).f0)) := (blk_cell BK106.out 0).trans rfl
                              have hcz44_1 : wc.cell? ⟨gb106, 1, none⟩ = some (.int .i64 ((rd_T88 l0_2 x24_2).f1)) := (blk_cell BK106.out 1).trans rfl
                              have hcz44_2 : wc.cell? ⟨gb106, 2, none⟩ = some (.int .i64 ((rd_T88 l0_2 x24_2).f2.f0)) := (blk_cell BK106.out 2).trans rfl
                              have hcz44_3 : wc.cell? ⟨gb106, 3, none⟩ = some (.int .i64 ((rd_T88 l0_2 x24_2).f2.f1)) := (blk_cell BK106.out 3).trans rfl
                              have hcz44_4 : wc.cell? ⟨gb106, 4, none⟩ = some (.int .i64 ((rd_T88 l0_2 x24_2).f3)) := (blk_cell BK106.out 4).trans rfl
                              have hcz44_5 : wc.cell? ⟨gb106, 5, none⟩ = some (.bool ((rd_T88 l0_2 x24_2).f4)) := (blk_cell BK106.out 5).trans rfl
                              have hfz44_0 := blk_frozen BK106.out 0
                              have hfz44_1 := blk_frozen BK106.out 1
                              have hfz44_2 := blk_frozen BK106.out 2
                              have hfz44_3 := blk_frozen BK106.out 3
                              have hfz44_4 := blk_frozen BK106.out 4
                              have hfz44_5 := blk_frozen BK106.out 5
                              go_wp2_with (first | ((with_reducible refine gate_callee (f := 87) rfl ?_); refine goesL_ (some 63) rfl rfl Try.func87 (by kernel_rfl) rfl #[.agg #[.int .i64 ((rd_T88 l0_2 x24_2).f2.f0), .int .i64 ((rd_T88 l0_2 x24_2).f2.f1)]] rfl (by (try simp only [List.map_toArray, List.map_cons, List.map_nil]); first | done | rfl | (simp only [List.length_drop, List.length_take]; rfl)) ?_; (with_reducible refine (spread_timed.calls ((rd_T88 l0_2 x24_2).f2.f0) ((rd_T88 l0_2 x24_2).f2.f1) false _ A38.out).mono ?_); rintro e w45 ⟨rfl, hb⟩; refine ⟨_, rfl, ?_⟩; have n0_ := Aside0.mk (blk_below (g := gb102) (o := .cells #[.int .i64 a0_0, .int .i64 a0_1, .slice (some ad105) l0_2.length c0_2] 32 (0, 0)) (by (with_reducible repeat (first | refine blk_drewN ?_ _ | refine blk_drew ?_ | refine blk_alloc ?_ _)); exact BK102.out) hb); have n1_ := Aside0.mk (blk_below (g := gb106) (o := .cells #[.int .i64 ((rd_T88 l0_2 x24_2).f0), .int .i64 ((rd_T88 l0_2 x24_2).f1), .int .i64 ((rd_T88 l0_2 x24_2).f2.f0), .int .i64 ((rd_T88 l0_2 x24_2).f2.f1), .int .i64 ((rd_T88 l0_2 x24_2).f3), .bool ((rd_T88 l0_2 x24_2).f4)] 88 (0, 0)) (by (with_reducible repeat (first | refine blk_drewN ?_ _ | refine blk_drew ?_ | refine blk_alloc ?_ _)); exact BK106.out) hb); have n2_ := Aside0.mk (below_step (by repeat (first | (with_reducible first | exact HB.out | apply below_alloc | apply pw_below_drewN | apply below_drew1 | refine below_set ?_ GE102.out | refine below_set ?_ GE106.out) | exact HB.out)) hb); clear BK102; clear BK106; clear HB; have BK102 := n0_; have BK106 := n1_; have HB := n2_; clear n0_ n1_ n2_; (try clear hb); (try clear hb2); (try clear hk); (try clear hi)))
                              go_ret
                              exact ⟨by first | rfl | (simp [errW_none, errW_some] <;> rfl) | (simp [*, errW_none, errW_some] <;> rfl), by repeat (first | (with_reducible first | exact HB.out | apply below_alloc | apply pw_below_drewN | apply below_drew1 | refine below_set ?_ GE102.out | refine below_set ?_ GE106.out) | exact HB.out)⟩
                  · rw [if_neg c15] at H
                    exact absurd H (by simp)
                · rw [if_neg c14] at H
                  exact absurd H (by simp)
              · rw [if_neg c13] at H
                have c13b0 : decide (x24_2 < (l0_2.length : Int)) = false := decide_eq_false c13
                clear c13
                obtain rfl := Option.some.inj H
                go_wp2
                go_ret
                exact ⟨by first | rfl | (simp [errW_none, errW_some] <;> rfl) | (simp [*, errW_none, errW_some] <;> rfl), by repeat (first | (with_reducible first | exact HB.out | apply below_alloc | apply pw_below_drewN | apply below_drew1 | refine below_set ?_ GE102.out) | exact HB.out)⟩
end Go.Proofs.Ytgmglpnoppcnkaa.PB
end
section
namespace Go.Proofs.Ytgmglpnoppcnkaa.PB
open Go.RowKit Go.Proofs.YtgmglpnoppcnkaaW.PrintWords Go.Proofs.YtgmglpnoppcnkaaW.PrintLast Go.Proofs.YtgmglpnoppcnkaaW.PrintMore
attribute [local go_sem] max2_int min2_int max_two min_two max_three min_three max_four min_four   -- for this text's walks alone
set_option linter.unusedVariables false
set_option linter.unusedSimpArgs false
attribute [local go_sem high] eqA41
def spread_spans.l0 : Nat → List Int → List Int → List (S41) → Int → Int → Option ((List (S41)))
  | 0, _, _, _, _, _ => none
  | k + 1, x0, x1, x5, x8, x9 => if x9 < x8 then (if 0 ≤ x9 then (if x9 < (x0.length : Int) then (if x9 < (x1.length : Int) then (if x5.length < 8796093022208 then (spread_spans.l0 k x0 x1 (x5 ++ [(⟨rd x0 x9, rd x1 x9⟩ : S41)]) x8 (wrap64 (x9 + 1))) else (none)) else (none)) else (none)) else (none)) else (some x5)
def spread_spans.f (k : Nat) (l0 : List Int) (l1 : List Int) : Option ((List (S41))) := spread_spans.l0 k l0 l1 ([] : List (S41)) (l0.length : Int) 0
def spread_spans.T5 : Bool × List (List Nat × List Nat) := (true, [([], []), ([], []), ([], []), ([1, 2], [1, 2]), ([3], [3]), ([], []), ([], []), ([5, 6], [5, 6]), ([7], [7]), ([4, 8], [4, 8]), ([9], [9]), ([0, 10], [0, 10]), ([11, 11, 0, 1, 2, 3, 4, 5, 6, 7, 8, 9, 10, 11], [0, 11])])
def spread_spans.B5 : List Nat := [0, 0, 0, 6, 14, 0, 0, 96, 224, 510, 1022, 2047, 4095]
theorem spread_spans.tab5 : rtab .any (opsOf Try.f55 5) = spread_spans.T5 := by kernel_rfl
theorem spread_spans.bits5 : waitsOk spread_spans.T5.2 spread_spans.B5 = true := by kernel_rfl
set_option maxHeartbeats 8000000 in
set_option maxRecDepth 100000 in
theorem spread_spans.calls (k : Nat) (A0 : Option Addr) (c0 : Nat) (l0 : List Int) (A1 : Option Addr) (c1 : Nat) (l1 : List Int) (r : List (S41)) (w : World) (hr0 : Kd.C (Kd.int .i64) w A0 l0.length l0) (hc0 : l0.length ≤ c0) (hr1 : Kd.C (Kd.int .i64) w A1 l1.length l1) (hc1 : l1.length ≤ c1) (h : spread_spans.f k l0 l1 = some r) :
    Calls Try.prog 55 #[.slice A0 l0.length c0, .slice A1 l1.length c1] w fun e w' => ∃ v0_ : Value, e = .returned (v0_) ∧ Kd.R k41 41 w' w.heap.size (fun _ => True) v0_ r ∧ Below w.heap.size w w' := by
  have hu41 := Try.underlying41
  have HR0 := Aside0.mk hr0
  have HC0 := Aside0.mk hc0
  clear hr0 hc0
  have HR1 := Aside0.mk hr1
  have HC1 := Aside0.mk hc1
  clear hr1 hc1
  have HB := Aside0.mk (Below.refl w.heap.size w)
  have H : (spread_spans.l0 k l0 l1 ([] : List (S41)) (l0.length : Int) 0) = some r := h
  clear h
  have H' := Aside0.mk H
  clear H
  go_enter Try.func55, Try.ntmps55
  go_wp2
  go_loopg [5, 9] k (fun kq v5 v9 w' => ∃ (x5_1 : List (S41)) (x9_1 : Int), v9 = .int .i64 x9_1 ∧ Aside0 (spread_spans.l0 kq l0 l1 x5_1 (l0.length : Int) x9_1 = some r) ∧ Aside0 (kq ≤ k) ∧ Aside0 (Kd.R k41 41 w' w.heap.size (fun _ => True) v5 x5_1) ∧ Aside0 (Below w.heap.size w w'))
  case atStart => exact ⟨(([] : List (S41))), (0), (by first | rfl | (simp; done) | (simp [*]; done)), H', ⟨Nat.le_refl _⟩, ⟨by first | exact Kd.R_nil _ _ _ _ _ | exact Kd.N_nil _ _ _ _ _ | exact Kd.V_nil _ _ _ _ _ | exact Kd.Q_nil _ _ _ _ _ | exact Kd.S_nil _ _ _ _ _⟩, ⟨by repeat (first | (with_reducible first | exact HB.out | apply below_alloc | apply pw_below_drewN | apply below_drew1) | exact HB.out)⟩⟩
  case round =>
    clear H'
    try clear c1
    try clear p2
    obtain ⟨x5_1, x9_1, rfl, HA, HK1, HO_5, HB⟩ := hrel
    cases gk with
    | zero => exact absurd HA.out (by simp [spread_spans.l0])
    | succ k1 =>
      have H := HA.out
      clear HA
      simp only [spread_spans.l0] at H
      by_cases c3 : x9_1 < (l0.length : Int)
      · rw [if_pos c3] at H
        have c3b0 : decide (x9_1 < (l0.length : Int)) = true := decide_eq_true c3
        clear c3
        by_cases c4 : 0 ≤ x9_1
        · rw [if_pos c4] at H
          have c4b0 : decide (0 ≤ x9_1) = true := decide_eq_true c4
          clear c4
          by_cases c5 : x9_1 < (l0.length : Int)
          · rw [if_pos c5] at H
            have c5b0 : decide (x9_1 < (l0.length : Int)) = true := decide_eq_true c5
            clear c5
            by_cases c6 : x9_1 < (l1.length : Int)
            · rw [if_pos c6] at H
              have c6b0 : decide (x9_1 < (l1.length : Int)) = true := decide_eq_true c6
              clear c6
              by_cases c7 : x5_1.length < 8796093022208
              · rw [if_pos c7] at H
                have LMc7 := Aside0.mk c7
                clear c7
                obtain ⟨y113, hy113⟩ : ∃ y_ : List (S41), y_ = (x5_1 ++ [(⟨rd l0 x9_1, rd l1 x9_1⟩ : S41)]) := ⟨_, rfl⟩
                replace H : (spread_spans.l0 k1 l0 l1 y113 (l0.length : Int) (wrap64 (x9_1 + 1))) = some r := by first | (rw [hy113]; with_reducible exact H) | (have H2_ := (Option.bind_some _ _).symm.trans H; rw [hy113]; with_reducible exact H2_) | (have H2_ := (Option.bind_some _ _).symm.trans H; with_reducible exact H2_) | with_reducible exact H | (rw [hy113]; exact H) | exact H
                have Ny113 := Aside0.mk hy113
                clear hy113
                have H' := Aside0.mk H
                clear H
                try go_wp2
                have n0_ := Aside0.mk (Kd.R_drew HO_5.out)
                have n1_ := Aside0.mk (below_drew1 HB.out)
                clear HO_5
                clear HB
                have HO_5 := n0_
                have HB := n1_
                clear n0_ n1_
                have p111 : 0 ≤ (x9_1 : Int) := of_decide_eq_true (by first | (with_reducible assumption) | assumption)
                have q111 : x9_1 < (l0.length : Int) := of_decide_eq_true (by first | (with_reducible assumption) | assumption)
                obtain ⟨ad111, e111, hx111_0⟩ := Kd.at_int HR0.out x9_1 p111 q111
                have hw111_0 := hx111_0
                cases e111
                replace hx111_0 := (HB.out.cell (World.block_lt_of_cell? w _ hx111_0)).trans hx111_0
                replace p111 := eq_true p111
                replace q111 := eq_true q111
                have p112 : 0 ≤ (x9_1 : Int) := of_decide_eq_true (by first | (with_reducible assumption) | assumption)
                have q112 : x9_1 < (l1.length : Int) := of_decide_eq_true (by first | (with_reducible assumption) | assumption)
                obtain ⟨ad112, e112, hx112_0⟩ := Kd.at_int HR1.out x9_1 p112 q112
                have hw112_0 := hx112_0
                cases e112
                replace hx112_0 := (HB.out.cell (World.block_lt_of_cell? w _ hx112_0)).trans hx112_0
                replace p112 := eq_true p112
                replace q112 := eq_true q112
                refine start_ (n := 13) (S := fun w' => w'.cell? (ad111.add (x9_1).toNat) = some (.int .i64 (rd l0 x9_1)) ∧ w'.cell? (ad112.add (x9_1).toNat) = some (.int .i64 (rd l1 x9_1))) (ds := []) #[false, false, false, false, false, false, false, false, false, false, false, false, false] (by kernel_rfl) rfl rfl ⟨((HB.out.cell (World.block_lt_of_cell? w _ hw111_0)).trans hw111_0), ((HB.out.cell (World.block_lt_of_cell? w _ hw112_0)).trans hw112_0)⟩ (fun hHeld => ?_); refine with_tabW spread_spans.tab5 spread_spans.bits5 (fun HT_ HW_ => ?_)
                generalize wr.drew = w8 at HO_5 HB hx111_0 hx112_0 hHeld ⊢
                refine pure_ (i := 0) (N := some 12) (v := ?_) (a' := ?_) #[true, false, false, false, false, false, false, false, false, false, false, false, false] rfl rfl (any_of HT_.out (by kernel_rfl)) (fun _ _ _ h => h) (Or.inl ⟨by rfl, ?_⟩) ?_ ?_
                rotate_left
                · intro w'
                  go_simp
                  with_reducible rfl
                rotate_left
                · simp only [Act.put, List.setIfInBounds_toArray, List.set_cons_zero, List.set_cons_succ, i64_w, i32_w]
                  rfl
                refine pure_ (i := 1) (N := some 13) (v := ?_) (a' := ?_) #[true, true, false, false, false, false, false, false, false, false, false, false, false] rfl rfl (any_of HT_.out (by kernel_rfl)) (fun _ _ _ h => h) (Or.inl ⟨by rfl, ?_⟩) ?_ ?_
                rotate_left
                · intro w'
                  go_simp
                  with_reducible rfl
                rotate_left
                · simp only [Act.put, List.setIfInBounds_toArray, List.set_cons_zero, List.set_cons_succ, i64_w, i32_w]
                  rfl
                refine pure_ (i := 2) (N := some 14) (v := ?_) (a' := ?_) #[true, true, true, false, false, false, false, false, false, false, false, false, false] rfl rfl (any_of HT_.out (by kernel_rfl)) (fun _ _ _ h => h) (Or.inl ⟨by rfl, ?_⟩) ?_ ?_
                rotate_left
                · intro w'
                  go_simp
                  with_reducible rfl
                rotate_left
                · simp only [Act.put, List.setIfInBounds_toArray, List.set_cons_zero, List.set_cons_succ, i64_w, i32_w]
                  rfl
                refine pure_ (i := 3) (N := some 15) (v := ?_) (a' := ?_) #[true, true, true, true, false, false, false, false, false, false, false, false, false] rfl rfl (any_of HT_.out (by kernel_rfl)) (fun _ _ _ h => h) (Or.inl ⟨by rfl, ?_⟩) ?_ ?_
                rotate_left
                · intro w'
                  go_simp
                  with_reducible rfl
                rotate_left
                · simp only [Act.put, List.setIfInBounds_toArray, List.set_cons_zero, List.set_cons_succ, i64_w, i32_w]
                  rfl
                refine pure_ (i := 5) (N := some 17) (v := ?_) (a' := ?_) #[true, true, true, true, false, true, false, false, false, false, false, false, false] rfl rfl (any_of HT_.out (by kernel_rfl)) (fun _ _ _ h => h) (Or.inl ⟨by rfl, ?_⟩) ?_ ?_
                rotate_left
                · intro w'
                  go_simp
                  with_reducible rfl
                rotate_left
                · simp only [Act.put, List.setIfInBounds_toArray, List.set_cons_zero, List.set_cons_succ, i64_w, i32_w]
                  rfl
                refine pure_ (i := 6) (N := some 18) (v := ?_) (a' := ?_) #[true, true, true, true, false, true, true, false, false, false, false, false, false] rfl rfl (any_of HT_.out (by kernel_rfl)) (fun _ _ _ h => h) (Or.inl ⟨by rfl, ?_⟩) ?_ ?_
                rotate_left
                · intro w'
                  go_simp
                  with_reducible rfl
                rotate_left
                · simp only [Act.put, List.setIfInBounds_toArray, List.set_cons_zero, List.set_cons_succ, i64_w, i32_w]
                  rfl
                refine pure_ (i := 7) (N := some 19) (v := ?_) (a' := ?_) #[true, true, true, true, false, true, true, true, false, false, false, false, false] rfl rfl (any_of HT_.out (by kernel_rfl)) (fun _ _ _ h => h) (Or.inl ⟨by rfl, ?_⟩) ?_ ?_
                rotate_left
                · intro w'
                  go_simp
                  with_reducible rfl
                rotate_left
                · simp only [Act.put, List.setIfInBounds_toArray, List.set_cons_zero, List.set_cons_succ, i64_w, i32_w]
                  rfl
                refine take_ (i := 4) (N := some 16) (v := ?_) (a' := ?_) #[true, true, true, true, true, true, true, true, false, false, false, false, false] rfl rfl (take_ofW HT_.out HW_.out (by kernel_rfl)) (fun _ _ _ h => h) (Or.inl ⟨by rfl, ?_⟩) hHeld ?_ ?_
                rotate_left
                · rintro w' ⟨s0, s1⟩
                  go_simp
                  with_reducible rfl
                rotate_left
                · simp only [Act.put, List.setIfInBounds_toArray, List.set_cons_zero, List.set_cons_succ, i64_w, i32_w]
                  rfl
                refine take_ (i := 8) (N := some 20) (v := ?_) (a' := ?_) #[true, true, true, true, true, true, true, true, true, false, false, false, false] rfl rfl (take_ofW HT_.out HW_.out (by kernel_rfl)) (fun _ _ _ h => h) (Or.inl ⟨by rfl, ?_⟩) hHeld ?_ ?_
                rotate_left
                · rintro w' ⟨s0, s1⟩
                  go_simp
                  with_reducible rfl
                rotate_left
                · simp only [Act.put, List.setIfInBounds_toArray, List.set_cons_zero, List.set_cons_succ, i64_w, i32_w]
                  rfl
                refine pure_ (i := 9) (N := some 21) (v := ?_) (a' := ?_) #[true, true, true, true, true, true, true, true, true, true, false, false, false] rfl rfl (any_of HT_.out (by kernel_rfl)) (fun _ _ _ h => h) (Or.inl ⟨by rfl, ?_⟩) ?_ ?_
                rotate_left
                · intro w'
                  go_simp
                  with_reducible rfl
                rotate_left
                · simp only [Act.put, List.setIfInBounds_toArray, List.set_cons_zero, List.set_cons_succ, i64_w, i32_w]
                  rfl
                refine one_ (i := 10) (N := some 22) #[true, true, true, true, true, true, true, true, true, true, true, false, false] rfl rfl (one_of HT_.out (by kernel_rfl)) (by decide) (fun K hK => ?_)
                refine value_ (w1 := ?_) (v := ?_) (by rfl) rfl ?_ ?_
                rotate_left 2
                · go_simp
                  constructor
                  · rfl
                  · rfl
                refine hK.out _ _ ⟨(World.cell?_alloc_lt _ _ _ (World.block_lt_of_cell? _ _ (((HB.out.cell (World.block_lt_of_cell? w _ hw111_0)).trans hw111_0)))).trans (((HB.out.cell (World.block_lt_of_cell? w _ hw111_0)).trans hw111_0)), (World.cell?_alloc_lt _ _ _ (World.block_lt_of_cell? _ _ (((HB.out.cell (World.block_lt_of_cell? w _ hw112_0)).trans hw112_0)))).trans (((HB.out.cell (World.block_lt_of_cell? w _ hw112_0)).trans hw112_0))⟩ (fun hHeld => ?_)
                clear hK K
                refine norm_ (a' := ?_) ?_ ?_
                rotate_left
                · show Act.put _ (some 22) _ = _
                  simp only [Act.put, List.setIfInBounds_toArray, List.set_cons_zero, List.set_cons_succ, i64_w, i32_w]
                  rfl
                refine one_ (i := 11) (N := some 23) #[true, true, true, true, true, true, true, true, true, true, true, true, false] rfl rfl (one_of HT_.out (by kernel_rfl)) (by decide) (fun K hK => ?_)
                refine Kd.R_append_step k41 (w0 := w) w.heap.size (by rfl) (.tmp 12) (.tmp 22) 36 41 (.agg #[(.int .i64 0), (.int .i64 0)]) 16 rfl Try.underlying36 info41 rfl (by decide) (by omega) u5 x5_1 (⟨rd l0 x9_1, rd l1 x9_1⟩ : S41) [.int .i64 (rd l0 x9_1), .int .i64 (rd l1 x9_1)] (fun _ => True) (fun _ => False) rfl rfl ?aP (fun _ hk => hk.elim) ?aF ?aO ?aB ?aS ?aL ?_
                (case aP => exact k41_mkM _ _ _ (⟨rd l0 x9_1, rd l1 x9_1⟩ : S41))
                (case aB => exact (by repeat (first | (with_reducible first | exact HB.out | apply below_alloc | apply pw_below_drewN | apply below_drew1) | exact HB.out)))
                (case aF => exact (fun _ _ => trivial))
                (case aO => exact (by (with_reducible repeat (first | apply Kd.R_alloc | apply Kd.R_drewN | apply Kd.R_drew)); exact HO_5.out))
                (case aS => exact (below_size (by repeat (first | (with_reducible first | exact HB.out | apply below_alloc | apply pw_below_drewN | apply below_drew1) | exact HB.out))))
                (case aL => have := LMc7.out; omega)
                intro v114 w9 ho hb hg hat
                rw [← Ny113.out] at ho
                have n0_ := Aside0.mk (hb)
                have n1_ := Aside0.mk (ho)
                clear HB
                clear HO_5
                have HB := n0_
                have HO115 := n1_
                clear n0_ n1_
                clear ho hb hg hat
                refine hK.out _ _ ⟨((HB.out.cell (World.block_lt_of_cell? w _ hw111_0)).trans hw111_0), ((HB.out.cell (World.block_lt_of_cell? w _ hw112_0)).trans hw112_0)⟩ (fun hHeld => ?_)
                clear hK K
                refine norm_ (a' := ?_) ?_ ?_
                rotate_left
                · show Act.put _ (some 23) _ = _
                  simp only [Act.put, List.setIfInBounds_toArray, List.set_cons_zero, List.set_cons_succ, i64_w, i32_w]
                  rfl
                refine pure_ (i := 12) (N := some 5) (v := ?_) (a' := ?_) #[true, true, true, true, true, true, true, true, true, true, true, true, true] rfl rfl (any_of HT_.out (by kernel_rfl)) (fun _ _ _ h => h) (Or.inl ⟨by rfl, ?_⟩) ?_ ?_
                rotate_left
                · intro w'
                  go_simp
                  with_reducible rfl
                rotate_left
                · simp only [Act.put, List.setIfInBounds_toArray, List.set_cons_zero, List.set_cons_succ, i64_w, i32_w]
                  rfl
                refine done_ (done_of HT_.out (by kernel_rfl)) ?_
                try go_wp2
                go_roundg k1
                case measure => have := HK1.out; omega
                case rel => exact ⟨(y113), (wrap64 (x9_1 + 1)), (by first | rfl | (simp; done) | (simp [*]; done)), H', ⟨by have := HK1.out; omega⟩, ⟨by (with_reducible repeat (first | apply Kd.R_alloc | apply Kd.R_drewN | apply Kd.R_drew)); exact HO115.out⟩, ⟨by repeat (first | (with_reducible first | exact HB.out | apply below_alloc | apply pw_below_drewN | apply below_drew1) | exact HB.out)⟩⟩
              · rw [if_neg c7] at H
                exact absurd H (by simp)
            · rw [if_neg c6] at H
              exact absurd H (by simp)
          · rw [if_neg c5] at H
            exact absurd H (by simp)
        · rw [if_neg c4] at H
          exact absurd H (by simp)
      · rw [if_neg c3] at H
        have c3b0 : decide (x9_1 < (l0.length : Int)) = false := decide_eq_false c3
        clear c3
        obtain rfl := Option.some.inj H
        go_wp2
        go_ret
        exact ⟨_, by first | rfl | (simp [errW_none, errW_some] <;> rfl) | (simp [*, errW_none, errW_some] <;> rfl), by (with_reducible repeat (first | apply Kd.R_alloc | apply Kd.R_drewN | apply Kd.R_drew)); exact HO_5.out, by repeat (first | (with_reducible first | exact HB.out | apply below_alloc | apply pw_below_drewN | apply below_drew1) | exact HB.out)⟩
def bits_Mul64.f (a0 : Int) (a1 : Int) : Option (Int × Int) := some (IntKind.u64.wrap ((IntKind.u64.wrap ((IntKind.u64.wrap ((a0 / 4294967296) * (a1 / 4294967296))) + ((IntKind.u64.wrap ((IntKind.u64.wrap ((a0 / 4294967296) * (Go.bits .and .u64 a1 4294967295))) + ((IntKind.u64.wrap ((Go.bits .and .u64 a0 4294967295) * (Go.bits .and .u64 a1 4294967295))) / 4294967296))) / 4294967296))) + ((IntKind.u64.wrap ((Go.bits .and .u64 (IntKind.u64.wrap ((IntKind.u64.wrap ((a0 / 4294967296) * (Go.bits .and .u64 a1 4294967295))) + ((IntKind.u64.wrap ((Go.bits .and .u64 a0 4294967295) * (Go.bits .and .u64 a1 4294967295))) / 4294967296))) 4294967295) + (IntKind.u64.wrap ((Go.bits .and .u64 a0 4294967295) * (a1 / 4294967296))))) / 4294967296)), IntKind.u64.wrap (a0 * a1))
set_option maxHeartbeats 8000000 in
set_option maxRecDepth 100000 in
theorem bits_Mul64.calls (a0 : Int) (a1 : Int) (r1 : Int) (r2 : Int) (w : World) (h : bits_Mul64.f a0 a1 = some (r1, r2)) :
    Calls Try.prog 128 #[.int .u64 a0, .int .u64 a1] w fun e w' => e = .returned (.tuple #[.int .u64 r1, .int .u64 r2]) ∧ Drawn0 w w' := by
  have H : (some (IntKind.u64.wrap ((IntKind.u64.wrap ((IntKind.u64.wrap ((a0 / 4294967296) * (a1 / 4294967296))) + ((IntKind.u64.wrap ((IntKind.u64.wrap ((a0 / 4294967296) * (Go.bits .and .u64 a1 4294967295))) + ((IntKind.u64.wrap ((Go.bits .and .u64 a0 4294967295) * (Go.bits .and .u64 a1 4294967295))) / 4294967296))) / 4294967296))) + ((IntKind.u64.wrap ((Go.bits .and .u64 (IntKind.u64.wrap ((IntKind.u64.wrap ((a0 / 4294967296) * (Go.bits .and .u64 a1 4294967295))) + ((IntKind.u64.wrap ((Go.bits .and .u64 a0 4294967295) * (Go.bits .and .u64 a1 4294967295))) / 4294967296))) 4294967295) + (IntKind.u64.wrap ((Go.bits .and .u64 a0 4294967295) * (a1 / 4294967296))))) / 4294967296)), IntKind.u64.wrap (a0 * a1))) = some (r1, r2) := h
  clear h
  simp only [Option.some.injEq, Prod.mk.injEq] at H
  obtain ⟨rfl, rfl⟩ := H
  go_enter Try.func128, Try.ntmps128
  go_wp2
  go_ret2
  exact ⟨by first | rfl | (simp; done) | (simp [*]; done), by repeat (first | exact Drawn0.refl _ | apply Drawn0.step)⟩
def bits_Mul.f (a0 : Int) (a1 : Int) : Option (Int × Int) := (bits_Mul64.f a0 a1).bind fun bt116 => (some (bt116.1, bt116.2))
set_option maxHeartbeats 8000000 in
set_option maxRecDepth 100000 in
theorem bits_Mul.calls (a0 : Int) (a1 : Int) (r1 : Int) (r2 : Int) (w : World) (h : bits_Mul.f a0 a1 = some (r1, r2)) :
    Calls Try.prog 112 #[.int .u64 a0, .int .u64 a1] w fun e w' => e = .returned (.tuple #[.int .u64 r1, .int .u64 r2]) ∧ Drawn0 w w' := by
  have H : ((bits_Mul64.f a0 a1).bind fun bt116 => (some (bt116.1, bt116.2))) = some (r1, r2) := h
  clear h
  replace H := Option.bind_eq_some_iff.mp H
  obtain ⟨⟨t116, t117⟩, A30, H⟩ := H
  replace H : (some (t116, t117)) = some (r1, r2) := H
  have A3 := Aside0.mk A30
  clear A30
  simp only [Option.some.injEq, Prod.mk.injEq] at H
  obtain ⟨rfl, rfl⟩ := H
  go_enter Try.func112, Try.ntmps112
  go_wp2_with (first | ((with_reducible refine gate_callee (f := 128) rfl ?_); refine goesL_ (some 25) rfl rfl Try.func128 (by kernel_rfl) rfl #[.int .u64 a0, .int .u64 a1] rfl (by (try simp only [List.map_toArray, List.map_cons, List.map_nil]); first | done | rfl | (simp only [List.length_drop, List.length_take]; rfl)) ?_; (with_reducible refine (bits_Mul64.calls a0 a1 t116 t117 _ A3.out).mono ?_); rintro e w' ⟨rfl, ⟨nd, rfl⟩⟩; refine ⟨_, rfl, ?_⟩))
  go_ret2
  exact ⟨by first | rfl | (simp; done) | (simp [*]; done), by repeat (first | exact Drawn0.refl _ | apply Drawn0.step)⟩
def tidewalllaw08_few.f (a0_0 : Int) (a0_1 : Int) (l0_2 : List (S88)) (l1 : List Int) : Option (Bool) := if (l0_2.length : Int) ≤ 300 then (some (decide ((l1.length : Int) ≤ 30))) else (some false)
set_option maxHeartbeats 8000000 in
set_option maxRecDepth 100000 in
theorem tidewalllaw08_few.calls (a0_0 : Int) (a0_1 : Int) (A0_2 : Option Addr) (c0_2 : Nat) (l0_2 : List (S88)) (A1 : Option Addr) (c1 : Nat) (l1 : List Int) (r : Bool) (w : World) (hr0_2 : Kd.C k88 w A0_2 l0_2.length l0_2) (hc0_2 : l0_2.length ≤ c0_2) (hr1 : Kd.C (Kd.int .i64) w A1 l1.length l1) (hc1 : l1.length ≤ c1) (h : tidewalllaw08_few.f a0_0 a0_1 l0_2 l1 = some r) :
    Calls Try.prog 22 #[.agg #[.int .i64 a0_0, .int .i64 a0_1, .slice A0_2 l0_2.length c0_2], .slice A1 l1.length c1] w fun e w' => e = .returned (.bool r) ∧ Below w.heap.size w w' := by
  have hu32 := Try.underlying32
  have HR0_2 := Aside0.mk hr0_2
  have HC0_2 := Aside0.mk hc0_2
  clear hr0_2 hc0_2
  have HR1 := Aside0.mk hr1
  have HC1 := Aside0.mk hc1
  clear hr1 hc1
  have HB := Aside0.mk (Below.refl w.heap.size w)
  have H : (if (l0_2.length : Int) ≤ 300 then (some (decide ((l1.length : Int) ≤ 30))) else (some false)) = some r := h
  clear h
  by_cases c3 : (l0_2.length : Int) ≤ 300
  · rw [if_pos c3] at H
    have c3b0 : decide ((l0_2.length : Int) ≤ 300) = true := decide_eq_true c3
    have c3b1 : decide (l0_2.length ≤ 300) = true := decide_eq_true (by omega)
    clear c3
    obtain rfl := Option.some.inj H
    go_enter Try.func22, Try.ntmps22
    go_wp2_with (first | ((with_reducible refine gate_dst (N := 2) rfl ?_); (try (refine gate_guard (by rfl) ?_; dsimp only)); refine box_event ?hg (N := 2) ?hd (cs := #[.int .i64 a0_0, .int .i64 a0_1, .slice A0_2 l0_2.length c0_2]) (t := 32) ?hr ?_; (case hd => rfl); (case hg => rfl); (case hr => first | (go_simp; done) | (go_simp; rfl)); intro gb118 hg w4 hbox hb; have n0_ := Aside0.mk (below_step (by repeat (first | (with_reducible first | exact HB.out | apply below_alloc | apply pw_below_drewN | apply below_drew1) | exact HB.out)) hb); have n1_ := Aside0.mk (hbox); have n2_ := Aside0.mk ((by rw [hg]; exact (below_size (by repeat (first | (with_reducible first | exact HB.out | apply below_alloc | apply pw_below_drewN | apply below_drew1) | exact HB.out))) : w.heap.size ≤ gb118)); have n3_ := Aside0.mk ((by rw [hg]; exact (below_size (by repeat (first | (with_reducible first | exact HB.out | apply below_alloc | apply pw_below_drewN | apply below_drew1) | exact HB.out))) : w.heap.size ≤ gb118)); clear HB; have HB := n0_; have BK118 := n1_; have GW118 := n2_; have GE118 := n3_; clear n0_ n1_ n2_ n3_; clear hb hbox hg; have hcz5_0 : w4.cell? ⟨gb118, 0, none⟩ = some (.int .i64 a0_0) := (blk_cell BK118.out 0).trans rfl; have hcz5_1 : w4.cell? ⟨gb118, 1, none⟩ = some (.int .i64 a0_1) := (blk_cell BK118.out 1).trans rfl; have hcz5_2 : w4.cell? ⟨gb118, 2, none⟩ = some (.slice A0_2 l0_2.length c0_2) := (blk_cell BK118.out 2).trans rfl; have hfz5_0 := blk_frozen BK118.out 0; have hfz5_1 := blk_frozen BK118.out 1; have hfz5_2 := blk_frozen BK118.out 2))
    go_ret
    exact ⟨by first | rfl | (simp [errW_none, errW_some] <;> rfl) | (simp [*, errW_none, errW_some] <;> rfl), by repeat (first | (with_reducible first | exact HB.out | apply below_alloc | apply pw_below_drewN | apply below_drew1 | refine below_set ?_ GE118.out) | exact HB.out)⟩
  · rw [if_neg c3] at H
    have c3b0 : decide ((l0_2.length : Int) ≤ 300) = false := decide_eq_false c3
    have c3b1 : decide (l0_2.length ≤ 300) = false := decide_eq_false (by omega)
    clear c3
    obtain rfl := Option.some.inj H
    go_enter Try.func22, Try.ntmps22
    go_wp2_with (first | ((with_reducible refine gate_dst (N := 2) rfl ?_); (try (refine gate_guard (by rfl) ?_; dsimp only)); refine box_event ?hg (N := 2) ?hd (cs := #[.int .i64 a0_0, .int .i64 a0_1, .slice A0_2 l0_2.length c0_2]) (t := 32) ?hr ?_; (case hd => rfl); (case hg => rfl); (case hr => first | (go_simp; done) | (go_simp; rfl)); intro gb118 hg w6 hbox hb; have n0_ := Aside0.mk (below_step (by repeat (first | (with_reducible first | exact HB.out | apply below_alloc | apply pw_below_drewN | apply below_drew1) | exact HB.out)) hb); have n1_ := Aside0.mk (hbox); have n2_ := Aside0.mk ((by rw [hg]; exact (below_size (by repeat (first | (with_reducible first | exact HB.out | apply below_alloc | apply pw_below_drewN | apply below_drew1) | exact HB.out))) : w.heap.size ≤ gb118)); have n3_ := Aside0.mk ((by rw [hg]; exact (below_size (by repeat (first | (with_reducible first | exact HB.out | apply below_alloc | apply pw_below_drewN | apply below_drew1) | exact HB.out))) : w.heap.size ≤ gb118)); clear HB; have HB := n0_; have BK118 := n1_; have GW118 := n2_; have GE118 := n3_; clear n0_ n1_ n2_ n3_; clear hb hbox hg; have hcz7_0 : w6.cell? ⟨gb118, 0, none⟩ = some (.int .i64 a0_0) := (blk_cell BK118.out 0).trans rfl; have hcz7_1 : w6.cell? ⟨gb118, 1, none⟩ = some (.int .i64 a0_1) := (blk_cell BK118.out 1).trans rfl; have hcz7_2 : w6.cell? ⟨gb118, 2, none⟩ = some (.slice A0_2 l0_2.length c0_2) := (blk_cell BK118.out 2).trans rfl; have hfz7_0 := blk_frozen BK118.out 0; have hfz7_1 := blk_frozen BK118.out 1; have hfz7_2 := blk_frozen BK118.out 2))
    go_ret
    exact ⟨by first | rfl | (simp [errW_none, errW_some] <;> rfl) | (simp [*, errW_none, errW_some] <;> rfl), by repeat (first | (with_reducible first | exact HB.out | apply below_alloc | apply pw_below_drewN | apply below_drew1 | refine below_set ?_ GE118.out) | exact HB.out)⟩
def tidewalllaw08_equal.l0 : Nat → List Int → List Int → Int → Option (Bool)
  | 0, _, _, _ => none
  | k + 1, x0, x1, x5 => if x5 < (x0.length : Int) then (if 0 ≤ x5 then (if x5 < (x1.length : Int) then (if (rd x0 x5) = (rd x1 x5) then (tidewalllaw08_equal.l0 k x0 x1 (wrap64 (x5 + 1))) else (some false)) else (none)) else (none)) else (some true)
def tidewalllaw08_equal.f (k : Nat) (l0 : List Int) (l1 : List Int) : Option (Bool) := if (l0.length : Int) = (l1.length : Int) then (tidewalllaw08_equal.l0 k l0 l1 0) else (some false)
set_option maxHeartbeats 8000000 in
set_option maxRecDepth 100000 in
theorem tidewalllaw08_equal.calls (k : Nat) (A0 : Option Addr) (c0 : Nat) (l0 : List Int) (A1 : Option Addr) (c1 : Nat) (l1 : List Int) (r : Bool) (w : World) (hr0 : Kd.C (Kd.int .i64) w A0 l0.length l0) (hc0 : l0.length ≤ c0) (hr1 : Kd.C (Kd.int .i64) w A1 l1.length l1) (hc1 : l1.length ≤ c1) (h : tidewalllaw08_equal.f k l0 l1 = some r) :
    Calls Try.prog 27 #[.slice A0 l0.length c0, .slice A1 l1.length c1] w fun e w' => e = .returned (.bool r) ∧ Drawn0 w w' := by
  have HR0 := Aside0.mk hr0
  have HC0 := Aside0.mk hc0
  clear hr0 hc0
  have HR1 := Aside0.mk hr1
  have HC1 := Aside0.mk hc1
  clear hr1 hc1
  have H : (if (l0.length : Int) = (l1.length : Int) then (tidewalllaw08_equal.l0 k l0 l1 0) else (some false)) = some r := h
  clear h
  by_cases c3 : (l0.length : Int) = (l1.length : Int)
  · rw [if_pos c3] at H
    have c3b0 : ((l0.length : Int) == (l1.length : Int)) = true := beq_iff_eq.mpr c3
    have c3b1 : ((l0.length : Int) != (l1.length : Int)) = false := bne_eq_false_iff_eq.mpr c3
    have c3b2 : (l0.length == l1.length) = true := by first | simpa using c3 | (simp at c3 ⊢; omega)
    clear c3
    have H' := Aside0.mk H
    clear H
    go_enter Try.func27, Try.ntmps27
    go_wp2
    repeat (go_quiet (fail); try go_wp2)
    go_loopg [5] k (fun kq v5 w' => ∃ (x5_1 : Int), v5 = .int .i64 x5_1 ∧ Aside0 (tidewalllaw08_equal.l0 kq l0 l1 x5_1 = some r) ∧ Aside0 (kq ≤ k) ∧ Drawn0 w w')
    case atStart => exact ⟨(0), (by first | rfl | (simp; done) | (simp [*]; done)), H', ⟨Nat.le_refl _⟩, by repeat (first | exact Drawn0.refl _ | apply Drawn0.step)⟩
    case round =>
      clear H'
      try clear c1
      try clear c2
      try clear p2
      try clear c3
      try clear c3b0
      try clear c3b1
      try clear c3b2
      obtain ⟨x5_1, rfl, HA, HK1, ⟨m1, rfl⟩⟩ := hrel
      cases gk with
      | zero => exact absurd HA.out (by simp [tidewalllaw08_equal.l0])
      | succ k1 =>
        have H := HA.out
        clear HA
        simp only [tidewalllaw08_equal.l0] at H
        by_cases c4 : x5_1 < (l0.length : Int)
        · rw [if_pos c4] at H
          have c4b0 : decide (x5_1 < (l0.length : Int)) = true := decide_eq_true c4
          clear c4
          by_cases c5 : 0 ≤ x5_1
          · rw [if_pos c5] at H
            have c5b0 : decide (0 ≤ x5_1) = true := decide_eq_true c5
            clear c5
            by_cases c6 : x5_1 < (l1.length : Int)
            · rw [if_pos c6] at H
              have c6b0 : decide (x5_1 < (l1.length : Int)) = true := decide_eq_true c6
              clear c6
              by_cases c7 : (rd l0 x5_1) = (rd l1 x5_1)
              · rw [if_pos c7] at H
                have c7b0 : ((rd l0 x5_1) == (rd l1 x5_1)) = true := beq_iff_eq.mpr c7
                have c7b1 : ((rd l0 x5_1) != (rd l1 x5_1)) = false := bne_eq_false_iff_eq.mpr c7
                clear c7
                have H' := Aside0.mk H
                clear H
                have p121 : 0 ≤ (x5_1 : Int) := of_decide_eq_true (by first | (with_reducible assumption) | assumption)
                have q121 : x5_1 < (l0.length : Int) := of_decide_eq_true (by first | (with_reducible assumption) | assumption)
                obtain ⟨ad121, e121, hx121_0⟩ := Kd.at_int HR0.out x5_1 p121 q121
                cases e121
                replace p121 := eq_true p121
                replace q121 := eq_true q121
                have p122 : 0 ≤ (x5_1 : Int) := of_decide_eq_true (by first | (with_reducible assumption) | assumption)
                have q122 : x5_1 < (l1.length : Int) := of_decide_eq_true (by first | (with_reducible assumption) | assumption)
                obtain ⟨ad122, e122, hx122_0⟩ := Kd.at_int HR1.out x5_1 p122 q122
                cases e122
                replace p122 := eq_true p122
                replace q122 := eq_true q122
                go_wp2
                repeat (go_quiet (fail); try go_wp2)
                go_roundg k1
                case measure => have := HK1.out; omega
                case rel => exact ⟨(wrap64 (x5_1 + 1)), (by first | rfl | (simp; done) | (simp [*]; done)), H', ⟨by have := HK1.out; omega⟩, by repeat (first | exact Drawn0.refl _ | apply Drawn0.step)⟩
              · rw [if_neg c7] at H
                have c7b0 : ((rd l0 x5_1) == (rd l1 x5_1)) = false := beq_eq_false_iff_ne.mpr c7
                have c7b1 : ((rd l0 x5_1) != (rd l1 x5_1)) = true := bne_iff_ne.mpr c7
                obtain rfl := Option.some.inj H
                have p121 : 0 ≤ (x5_1 : Int) := of_decide_eq_true (by first | (with_reducible assumption) | assumption)
                have q121 : x5_1 < (l0.length : Int) := of_decide_eq_true (by first | (with_reducible assumption) | assumption)
                obtain ⟨ad121, e121, hx121_0⟩ := Kd.at_int HR0.out x5_1 p121 q121
                cases e121
                replace p121 := eq_true p121
                replace q121 := eq_true q121
                have p122 : 0 ≤ (x5_1 : Int) := of_decide_eq_true (by first | (with_reducible assumption) | assumption)
                have q122 : x5_1 < (l1.length : Int) := of_decide_eq_true (by first | (with_reducible assumption) | assumption)
                obtain ⟨ad122, e122, hx122_0⟩ := Kd.at_int HR1.out x5_1 p122 q122
                cases e122
                replace p122 := eq_true p122
                replace q122 := eq_true q122
                go_wp2
                repeat (go_quiet (fail); try go_wp2)
                go_ret
                exact ⟨by first | rfl | (simp; done) | (simp [*]; done), by repeat (first | exact Drawn0.refl _ | apply Drawn0.step)⟩
            · rw [if_neg c6] at H
              exact absurd H (by simp)
          · rw [if_neg c5] at H
            exact absurd H (by simp)
        · rw [if_neg c4] at H
          have c4b0 : decide (x5_1 < (l0.length : Int)) = false := decide_eq_false c4
          clear c4
          obtain rfl := Option.some.inj H
          go_wp2
          repeat (go_quiet (fail); try go_wp2)
          go_ret
          exact ⟨by first | rfl | (simp; done) | (simp [*]; done), by repeat (first | exact Drawn0.refl _ | apply Drawn0.step)⟩
  · rw [if_neg c3] at H
    have c3b0 : ((l0.length : Int) == (l1.length : Int)) = false := beq_eq_false_iff_ne.mpr c3
    have c3b1 : ((l0.length : Int) != (l1.length : Int)) = true := bne_iff_ne.mpr c3
    have c3b2 : (l0.length == l1.length) = false := by first | simpa using c3 | (simp at c3 ⊢; omega)
    obtain rfl := Option.some.inj H
    go_enter Try.func27, Try.ntmps27
    go_wp2
    repeat (go_quiet (fail); try go_wp2)
    go_ret
    exact ⟨by first | rfl | (simp; done) | (simp [*]; done), by repeat (first | exact Drawn0.refl _ | apply Drawn0.step)⟩
def tidewalllaw08_same.l0 : Nat → List (S41) → List (S41) → Int → Option (Bool)
  | 0, _, _, _ => none
  | k + 1, x0, x1, x5 => if x5 < (x0.length : Int) then (if 0 ≤ x5 then (if x5 < (x1.length : Int) then (if (!(((rd_T41 x0 x5).f0) == ((rd_T41 x1 x5).f0)) || (!(((rd_T41 x0 x5).f1) == ((rd_T41 x1 x5).f1)))) = true then (some false) else (tidewalllaw08_same.l0 k x0 x1 (wrap64 (x5 + 1)))) else (none)) else (none)) else (some true)
def tidewalllaw08_same.f (k : Nat) (l0 : List (S41)) (l1 : List (S41)) : Option (Bool) := if (l0.length : Int) = (l1.length : Int) then (tidewalllaw08_same.l0 k l0 l1 0) else (some false)
set_option maxHeartbeats 8000000 in
set_option maxRecDepth 100000 in
theorem tidewalllaw08_same.calls (k : Nat) (A0 : Option Addr) (c0 : Nat) (l0 : List (S41)) (A1 : Option Addr) (c1 : Nat) (l1 : List (S41)) (r : Bool) (w : World) (hr0 : Kd.C k41 w A0 l0.length l0) (hc0 : l0.length ≤ c0) (hr1 : Kd.C k41 w A1 l1.length l1) (hc1 : l1.length ≤ c1) (h : tidewalllaw08_same.f k l0 l1 = some r) :
    Calls Try.prog 34 #[.slice A0 l0.length c0, .slice A1 l1.length c1] w fun e w' => e = .returned (.bool r) ∧ Drawn0 w w' := by
  have hu41 := Try.underlying41
  have HR0 := Aside0.mk hr0
  have HC0 := Aside0.mk hc0
  clear hr0 hc0
  have HR1 := Aside0.mk hr1
  have HC1 := Aside0.mk hc1
  clear hr1 hc1
  have H : (if (l0.length : Int) = (l1.length : Int) then (tidewalllaw08_same.l0 k l0 l1 0) else (some false)) = some r := h
  clear h
  by_cases c3 : (l0.length : Int) = (l1.length : Int)
  · rw [if_pos c3] at H
    have c3b0 : ((l0.length : Int) == (l1.length : Int)) = true := beq_iff_eq.mpr c3
    have c3b1 : ((l0.length : Int) != (l1.length : Int)) = false := bne_eq_false_iff_eq.mpr c3
    have c3b2 : (l0.length == l1.length) = true := by first | simpa using c3 | (simp at c3 ⊢; omega)
    clear c3
    have H' := Aside0.mk H
    clear H
    go_enter Try.func34, Try.ntmps34
    go_wp2
    repeat (go_quiet (fail); try go_wp2)
    go_loopg [5] k (fun kq v5 w' => ∃ (x5_1 : Int), v5 = .int .i64 x5_1 ∧ Aside0 (tidewalllaw08_same.l0 kq l0 l1 x5_1 = some r) ∧ Aside0 (kq ≤ k) ∧ Drawn0 w w')
    case atStart => exact ⟨(0), (by first | rfl | (simp; done) | (simp [*]; done)), H', ⟨Nat.le_refl _⟩, by repeat (first | exact Drawn0.refl _ | apply Drawn0.step)⟩
    case round =>
      clear H'
      try clear c1
      try clear p2
      try clear c3
      try clear c3b0
      try clear c3b1
      try clear c3b2
      obtain ⟨x5_1, rfl, HA, HK1, ⟨m1, rfl⟩⟩ := hrel
      cases gk with
      | zero => exact absurd HA.out (by simp [tidewalllaw08_same.l0])
      | succ k1 =>
        have H := HA.out
        clear HA
        simp only [tidewalllaw08_same.l0] at H
        by_cases c4 : x5_1 < (l0.length : Int)
        · rw [if_pos c4] at H
          have c4b0 : decide (x5_1 < (l0.length : Int)) = true := decide_eq_true c4
          clear c4
          by_cases c5 : 0 ≤ x5_1
          · rw [if_pos c5] at H
            have c5b0 : decide (0 ≤ x5_1) = true := decide_eq_true c5
            clear c5
            by_cases c6 : x5_1 < (l1.length : Int)
            · rw [if_pos c6] at H
              have c6b0 : decide (x5_1 < (l1.length : Int)) = true := decide_eq_true c6
              clear c6
              by_cases c7 : (!(((rd_T41 l0 x5_1).f0) == ((rd_T41 l1 x5_1).f0)) || (!(((rd_T41 l0 x5_1).f1) == ((rd_T41 l1 x5_1).f1)))) = true
              · rw [if_pos c7] at H
                have c7b0 : (!(((rd_T41 l0 x5_1).f0) == ((rd_T41 l1 x5_1).f0)) || (!(((rd_T41 l0 x5_1).f1) == ((rd_T41 l1 x5_1).f1)))) = true := c7
                clear c7
                obtain rfl := Option.some.inj H
                have p123 : 0 ≤ (x5_1 : Int) := of_decide_eq_true (by first | (with_reducible assumption) | assumption)
                have q123 : x5_1 < (l0.length : Int) := of_decide_eq_true (by first | (with_reducible assumption) | assumption)
                obtain ⟨ad123, e123, hx123_0, hx123_1⟩ := at_T41 HR0.out x5_1 p123 q123
                cases e123
                replace p123 := eq_true p123
                replace q123 := eq_true q123
                have p124 : 0 ≤ (x5_1 : Int) := of_decide_eq_true (by first | (with_reducible assumption) | assumption)
                have q124 : x5_1 < (l1.length : Int) := of_decide_eq_true (by first | (with_reducible assumption) | assumption)
                obtain ⟨ad124, e124, hx124_0, hx124_1⟩ := at_T41 HR1.out x5_1 p124 q124
                cases e124
                replace p124 := eq_true p124
                replace q124 := eq_true q124
                go_wp2
                repeat (go_quiet (fail); try go_wp2)
                go_ret
                exact ⟨by first | rfl | (simp; done) | (simp [*]; done), by repeat (first | exact Drawn0.refl _ | apply Drawn0.step)⟩
              · rw [if_neg c7] at H
                have c7b0 : (!(((rd_T41 l0 x5_1).f0) == ((rd_T41 l1 x5_1).f0)) || (!(((rd_T41 l0 x5_1).f1) == ((rd_T41 l1 x5_1).f1)))) = false := by simpa using c7
                clear c7
                have H' := Aside0.mk H
                clear H
                have p123 : 0 ≤ (x5_1 : Int) := of_decide_eq_true (by first | (with_reducible assumption) | assumption)
                have q123 : x5_1 < (l0.length : Int) := of_decide_eq_true (by first | (with_reducible assumption) | assumption)
                obtain ⟨ad123, e123, hx123_0, hx123_1⟩ := at_T41 HR0.out x5_1 p123 q123
                cases e123
                replace p123 := eq_true p123
                replace q123 := eq_true q123
                have p124 : 0 ≤ (x5_1 : Int) := of_decide_eq_true (by first | (with_reducible assumption) | assumption)
                have q124 : x5_1 < (l1.length : Int) := of_decide_eq_true (by first | (with_reducible assumption) | assumption)
                obtain ⟨ad124, e124, hx124_0, hx124_1⟩ := at_T41 HR1.out x5_1 p124 q124
                cases e124
                replace p124 := eq_true p124
                replace q124 := eq_true q124
                go_wp2
                repeat (go_quiet (fail); try go_wp2)
                go_roundg k1
                case measure => have := HK1.out; omega
                case rel => exact ⟨(wrap64 (x5_1 + 1)), (by first | rfl | (simp; done) | (simp [*]; done)), H', ⟨by have := HK1.out; omega⟩, by repeat (first | exact Drawn0.refl _ | apply Drawn0.step)⟩
            · rw [if_neg c6] at H
              exact absurd H (by simp)
          · rw [if_neg c5] at H
            exact absurd H (by simp)
        · rw [if_neg c4] at H
          have c4b0 : decide (x5_1 < (l0.length : Int)) = false := decide_eq_false c4
          clear c4
          obtain rfl := Option.some.inj H
          go_wp2
          repeat (go_quiet (fail); try go_wp2)
          go_ret
          exact ⟨by first | rfl | (simp; done) | (simp [*]; done), by repeat (first | exact Drawn0.refl _ | apply Drawn0.step)⟩
  · rw [if_neg c3] at H
    have c3b0 : ((l0.length : Int) == (l1.length : Int)) = false := beq_eq_false_iff_ne.mpr c3
    have c3b1 : ((l0.length : Int) != (l1.length : Int)) = true := bne_iff_ne.mpr c3
    have c3b2 : (l0.length == l1.length) = false := by first | simpa using c3 | (simp at c3 ⊢; omega)
    obtain rfl := Option.some.inj H
    go_enter Try.func34, Try.ntmps34
    go_wp2
    repeat (go_quiet (fail); try go_wp2)
    go_ret
    exact ⟨by first | rfl | (simp; done) | (simp [*]; done), by repeat (first | exact Drawn0.refl _ | apply Drawn0.step)⟩
def tidewalllaw08_span.f (a0 : Int) (a1 : Int) : Option (Int × Int) := some (a0, a1)
set_option maxHeartbeats 8000000 in
set_option maxRecDepth 100000 in
theorem tidewalllaw08_span.calls (a0 : Int) (a1 : Int) (r1 : Int) (r2 : Int) (w : World) (h : tidewalllaw08_span.f a0 a1 = some (r1, r2)) :
    Calls Try.prog 52 #[.int .i64 a0, .int .i64 a1] w fun e w' => e = .returned (.agg #[.int .i64 r1, .int .i64 r2]) ∧ Below w.heap.size w w' := by
  have hu41 := Try.underlying41
  have HB := Aside0.mk (Below.refl w.heap.size w)
  have H : (some (a0, a1)) = some (r1, r2) := h
  clear h
  simp only [Option.some.injEq, Prod.mk.injEq] at H
  obtain ⟨rfl, rfl⟩ := H
  go_enter Try.func52, Try.ntmps52
  go_wp2_with (first | ((with_reducible refine gate_dst (N := 4) rfl ?_); refine box_event ?hg (N := 4) ?hd (cs := #[.int .i64 0, .int .i64 0]) (t := 41) ?hr ?_; (case hd => rfl); (case hg => rfl); (case hr => first | (go_simp; done) | (go_simp; rfl)); intro gb125 hg w3 hbox hb; have n0_ := Aside0.mk (below_step (by repeat (first | (with_reducible first | exact HB.out | apply below_alloc | apply pw_below_drewN | apply below_drew1) | exact HB.out)) hb); have n1_ := Aside0.mk (hbox); have n2_ := Aside0.mk ((by rw [hg]; exact (below_size (by repeat (first | (with_reducible first | exact HB.out | apply below_alloc | apply pw_below_drewN | apply below_drew1) | exact HB.out))) : w.heap.size ≤ gb125)); have n3_ := Aside0.mk ((by rw [hg]; exact (below_size (by repeat (first | (with_reducible first | exact HB.out | apply below_alloc | apply pw_below_drewN | apply below_drew1) | exact HB.out))) : w.heap.size ≤ gb125)); clear HB; have HB := n0_; have BK125 := n1_; have GW125 := n2_; have GE125 := n3_; clear n0_ n1_ n2_ n3_; clear hb hbox hg; have hcz4_0 : w3.cell? ⟨gb125, 0, none⟩ = some (.int .i64 0) := (blk_cell BK125.out 0).trans rfl; have hcz4_1 : w3.cell? ⟨gb125, 1, none⟩ = some (.int .i64 0) := (blk_cell BK125.out 1).trans rfl; have hfz4_0 := blk_frozen BK125.out 0; have hfz4_1 := blk_frozen BK125.out 1))
  refine bodyPost_ret (results_cell_row rfl _ _ gb125 41 #[.int .i64 a0, .int .i64 a1] (0, 0) _ rfl (by (with_reducible repeat (first | refine blk_drewN ?_ _ | refine blk_drew ?_ | refine blk_alloc ?_ _)); refine blk_put (cs := #[.int .i64 a0, .int .i64 0]) ?_ 1 _ rfl; (with_reducible repeat (first | refine blk_drewN ?_ _ | refine blk_drew ?_ | refine blk_alloc ?_ _)); refine blk_put (cs := #[.int .i64 0, .int .i64 0]) ?_ 0 _ rfl; (with_reducible repeat (first | refine blk_drewN ?_ _ | refine blk_drew ?_ | refine blk_alloc ?_ _)); exact BK125.out) Try.underlying41 rfl (by kernel_rfl)) rfl ?_
  exact ⟨by first | rfl | (simp [errW_none, errW_some] <;> rfl) | (simp [*, errW_none, errW_some] <;> rfl), by repeat (first | (with_reducible first | exact HB.out | apply below_alloc | apply pw_below_drewN | apply below_drew1 | refine below_set ?_ GE125.out) | exact HB.out)⟩
def tidewalllaw08_N.f  : Option (Int × Int × (List (S88))) := (tidewalllaw08_span.f 10 20).bind fun bt127 => ((tidewalllaw08_span.f 5 50).bind fun bt129 => ((tidewalllaw08_span.f 10 10).bind fun bt131 => ((tidewalllaw08_span.f 0 30).bind fun bt133 => ((tidewalllaw08_span.f 1 5).bind fun bt135 => (some (4, 3, (([(⟨0, 1, (⟨bt127.1, bt127.2⟩ : S41), 0, true⟩ : S88), (⟨0, 2, (⟨bt129.1, bt129.2⟩ : S41), 1, true⟩ : S88), (⟨1, 3, (⟨bt131.1, bt131.2⟩ : S41), 0, true⟩ : S88), (⟨2, 3, (⟨bt133.1, bt133.2⟩ : S41), 2, true⟩ : S88), (⟨1, 2, (⟨bt135.1, bt135.2⟩ : S41), (-1), false⟩ : S88)] : List (S88)))))))))
set_option maxHeartbeats 8000000 in
set_option maxRecDepth 100000 in
theorem tidewalllaw08_N.calls  (r1 : Int) (r2 : Int) (r3 : List (S88)) (w : World) (h : tidewalllaw08_N.f  = some (r1, r2, r3)) :
    Calls Try.prog 49 #[] w fun e w' => ∃ v2_ : Value, e = .returned (.agg #[.int .i64 r1, .int .i64 r2, v2_]) ∧ Kd.R k88 88 w' w.heap.size (fun _ => True) v2_ r3 ∧ Below w.heap.size w w' := by
  have hu32 := Try.underlying32
  have hu88 := Try.underlying88
  have HB := Aside0.mk (Below.refl w.heap.size w)
  have H : ((tidewalllaw08_span.f 10 20).bind fun bt127 => ((tidewalllaw08_span.f 5 50).bind fun bt129 => ((tidewalllaw08_span.f 10 10).bind fun bt131 => ((tidewalllaw08_span.f 0 30).bind fun bt133 => ((tidewalllaw08_span.f 1 5).bind fun bt135 => (some (4, 3, (([(⟨0, 1, (⟨bt127.1, bt127.2⟩ : S41), 0, true⟩ : S88), (⟨0, 2, (⟨bt129.1, bt129.2⟩ : S41), 1, true⟩ : S88), (⟨1, 3, (⟨bt131.1, bt131.2⟩ : S41), 0, true⟩ : S88), (⟨2, 3, (⟨bt133.1, bt133.2⟩ : S41), 2, true⟩ : S88), (⟨1, 2, (⟨bt135.1, bt135.2⟩ : S41), (-1), false⟩ : S88)] : List (S88)))))))))) = some (r1, r2, r3) := h
  clear h
  replace H := Option.bind_eq_some_iff.mp H
  obtain ⟨⟨t127, t128⟩, A10, H⟩ := H
  replace H : ((tidewalllaw08_span.f 5 50).bind fun bt129 => ((tidewalllaw08_span.f 10 10).bind fun bt131 => ((tidewalllaw08_span.f 0 30).bind fun bt133 => ((tidewalllaw08_span.f 1 5).bind fun bt135 => (some (4, 3, (([(⟨0, 1, (⟨t127, t128⟩ : S41), 0, true⟩ : S88), (⟨0, 2, (⟨bt129.1, bt129.2⟩ : S41), 1, true⟩ : S88), (⟨1, 3, (⟨bt131.1, bt131.2⟩ : S41), 0, true⟩ : S88), (⟨2, 3, (⟨bt133.1, bt133.2⟩ : S41), 2, true⟩ : S88), (⟨1, 2, (⟨bt135.1, bt135.2⟩ : S41), (-1), false⟩ : S88)] : List (S88))))))))) = some (r1, r2, r3) := H
  have A1 := Aside0.mk A10
  clear A10
  replace H := Option.bind_eq_some_iff.mp H
  obtain ⟨⟨t129, t130⟩, A20, H⟩ := H
  replace H : ((tidewalllaw08_span.f 10 10).bind fun bt131 => ((tidewalllaw08_span.f 0 30).bind fun bt133 => ((tidewalllaw08_span.f 1 5).bind fun bt135 => (some (4, 3, (([(⟨0, 1, (⟨t127, t128⟩ : S41), 0, true⟩ : S88), (⟨0, 2, (⟨t129, t130⟩ : S41), 1, true⟩ : S88), (⟨1, 3, (⟨bt131.1, bt131.2⟩ : S41), 0, true⟩ : S88), (⟨2, 3, (⟨bt133.1, bt133.2⟩ : S41), 2, true⟩ : S88), (⟨1, 2, (⟨bt135.1, bt135.2⟩ : S41), (-1), false⟩ : S88)] : List (S88)))))))) = some (r1, r2, r3) := H
  have A2 := Aside0.mk A20
  clear A20
  replace H := Option.bind_eq_some_iff.mp H
  obtain ⟨⟨t131, t132⟩, A30, H⟩ := H
  replace H : ((tidewalllaw08_span.f 0 30).bind fun bt133 => ((tidewalllaw08_span.f 1 5).bind fun bt135 => (some (4, 3, (([(⟨0, 1, (⟨t127, t128⟩ : S41), 0, true⟩ : S88), (⟨0, 2, (⟨t129, t130⟩ : S41), 1, true⟩ : S88), (⟨1, 3, (⟨t131, t132⟩ : S41), 0, true⟩ : S88), (⟨2, 3, (⟨bt133.1, bt133.2⟩ : S41), 2, true⟩ : S88), (⟨1, 2, (⟨bt135.1, bt135.2⟩ : S41), (-1), false⟩ : S88)] : List (S88))))))) = some (r1, r2, r3) := H
  have A3 := Aside0.mk A30
  clear A30
  replace H := Option.bind_eq_some_iff.mp H
  obtain ⟨⟨t133, t134⟩, A40, H⟩ := H
  replace H : ((tidewalllaw08_span.f 1 5).bind fun bt135 => (some (4, 3, (([(⟨0, 1, (⟨t127, t128⟩ : S41), 0, true⟩ : S88), (⟨0, 2, (⟨t129, t130⟩ : S41), 1, true⟩ : S88), (⟨1, 3, (⟨t131, t132⟩ : S41), 0, true⟩ : S88), (⟨2, 3, (⟨t133, t134⟩ : S41), 2, true⟩ : S88), (⟨1, 2, (⟨bt135.1, bt135.2⟩ : S41), (-1), false⟩ : S88)] : List (S88)))))) = some (r1, r2, r3) := H
  have A4 := Aside0.mk A40
  clear A40
  replace H := Option.bind_eq_some_iff.mp H
  obtain ⟨⟨t135, t136⟩, A50, H⟩ := H
  replace H : (some (4, 3, (([(⟨0, 1, (⟨t127, t128⟩ : S41), 0, true⟩ : S88), (⟨0, 2, (⟨t129, t130⟩ : S41), 1, true⟩ : S88), (⟨1, 3, (⟨t131, t132⟩ : S41), 0, true⟩ : S88), (⟨2, 3, (⟨t133, t134⟩ : S41), 2, true⟩ : S88), (⟨1, 2, (⟨t135, t136⟩ : S41), (-1), false⟩ : S88)] : List (S88))))) = some (r1, r2, r3) := H
  have A5 := Aside0.mk A50
  clear A50
  obtain ⟨y137, hy137⟩ : ∃ y_ : List (S88), y_ = (([(⟨0, 1, (⟨t127, t128⟩ : S41), 0, true⟩ : S88), (⟨0, 2, (⟨t129, t130⟩ : S41), 1, true⟩ : S88), (⟨1, 3, (⟨t131, t132⟩ : S41), 0, true⟩ : S88), (⟨2, 3, (⟨t133, t134⟩ : S41), 2, true⟩ : S88), (⟨1, 2, (⟨t135, t136⟩ : S41), (-1), false⟩ : S88)] : List (S88))) := ⟨_, rfl⟩
  replace H : (some (4, 3, y137)) = some (r1, r2, r3) := by first | (rw [hy137]; with_reducible exact H) | (have H2_ := (Option.bind_some _ _).symm.trans H; rw [hy137]; with_reducible exact H2_) | (have H2_ := (Option.bind_some _ _).symm.trans H; with_reducible exact H2_) | with_reducible exact H | (rw [hy137]; exact H) | exact H
  have Ny137 := Aside0.mk hy137
  clear hy137
  simp only [Option.some.injEq, Prod.mk.injEq] at H
  obtain ⟨rfl, rfl, rfl⟩ := H
  go_enter Try.func49, Try.ntmps49
  go_wp2_with (first | ((with_reducible refine gate_dst (N := 0) rfl ?_); refine box_event ?hg (N := 0) ?hd (cs := #[.int .i64 0, .int .i64 0, .slice none 0 0]) (t := 32) ?hr ?_; (case hd => rfl); (case hg => rfl); (case hr => first | (go_simp; done) | (go_simp; rfl)); intro gb126 hg w6 hbox hb; have n0_ := Aside0.mk (below_step (by repeat (first | (with_reducible first | exact HB.out | apply below_alloc | apply pw_below_drewN | apply below_drew1) | exact HB.out)) hb); have n1_ := Aside0.mk (hbox); have n2_ := Aside0.mk ((by rw [hg]; exact (below_size (by repeat (first | (with_reducible first | exact HB.out | apply below_alloc | apply pw_below_drewN | apply below_drew1) | exact HB.out))) : w.heap.size ≤ gb126)); have n3_ := Aside0.mk ((by rw [hg]; exact (below_size (by repeat (first | (with_reducible first | exact HB.out | apply below_alloc | apply pw_below_drewN | apply below_drew1) | exact HB.out))) : w.heap.size ≤ gb126)); clear HB; have HB := n0_; have BK126 := n1_; have GW126 := n2_; have GE126 := n3_; clear n0_ n1_ n2_ n3_; clear hb hbox hg) | ((with_reducible refine gate_callee (f := 52) rfl ?_); refine goesL_ (some 1) rfl rfl Try.func52 (by kernel_rfl) rfl #[.int .i64 10, .int .i64 20] rfl (by (try simp only [List.map_toArray, List.map_cons, List.map_nil]); first | done | rfl | (simp only [List.length_drop, List.length_take]; rfl)) ?_; (with_reducible refine (tidewalllaw08_span.calls 10 20 t127 t128 _ A1.out).mono ?_); rintro e w7 ⟨rfl, hb⟩; refine ⟨_, rfl, ?_⟩; have n0_ := Aside0.mk (blk_below (g := gb126) (o := .cells #[.int .i64 0, .int .i64 0, .slice none 0 0] 32 (0, 0)) (by (with_reducible repeat (first | refine blk_drewN ?_ _ | refine blk_drew ?_ | refine blk_alloc ?_ _)); exact BK126.out) hb); have n1_ := Aside0.mk (below_step (by repeat (first | (with_reducible first | exact HB.out | apply below_alloc | apply pw_below_drewN | apply below_drew1 | refine below_set ?_ GE126.out) | exact HB.out)) hb); clear BK126; clear HB; have BK126 := n0_; have HB := n1_; clear n0_ n1_; (try clear hb); (try clear hb2); (try clear hk); (try clear hi)) | ((with_reducible refine gate_callee (f := 52) rfl ?_); refine goesL_ (some 3) rfl rfl Try.func52 (by kernel_rfl) rfl #[.int .i64 5, .int .i64 50] rfl (by (try simp only [List.map_toArray, List.map_cons, List.map_nil]); first | done | rfl | (simp only [List.length_drop, List.length_take]; rfl)) ?_; (with_reducible refine (tidewalllaw08_span.calls 5 50 t129 t130 _ A2.out).mono ?_); rintro e w8 ⟨rfl, hb⟩; refine ⟨_, rfl, ?_⟩; have n0_ := Aside0.mk (blk_below (g := gb126) (o := .cells #[.int .i64 0, .int .i64 0, .slice none 0 0] 32 (0, 0)) (by (with_reducible repeat (first | refine blk_drewN ?_ _ | refine blk_drew ?_ | refine blk_alloc ?_ _)); exact BK126.out) hb); have n1_ := Aside0.mk (below_step (by repeat (first | (with_reducible first | exact HB.out | apply below_alloc | apply pw_below_drewN | apply below_drew1 | refine below_set ?_ GE126.out) | exact HB.out)) hb); clear BK126; clear HB; have BK126 := n0_; have HB := n1_; clear n0_ n1_; (try clear hb); (try clear hb2); (try clear hk); (try clear hi)) | ((with_reducible refine gate_callee (f := 52) rfl ?_); refine goesL_ (some 5) rfl rfl Try.func52 (by kernel_rfl) rfl #[.int .i64 10, .int .i64 10] rfl (by (try simp only [List.map_toArray, List.map_cons, List.map_nil]); first | done | rfl | (simp only [List.length_drop, List.length_take]; rfl)) ?_; (with_reducible refine (tidewalllaw08_span.calls 10 10 t131 t132 _ A3.out).mono ?_); rintro e w9 ⟨rfl, hb⟩; refine ⟨_, rfl, ?_⟩; have n0_ := Aside0.mk (blk_below (g := gb126) (o := .cells #[.int .i64 0, .int .i64 0, .slice none 0 0] 32 (0, 0)) (by (with_reducible repeat (first | refine blk_drewN ?_ _ | refine blk_drew ?_ | refine blk_alloc ?_ _)); exact BK126.out) hb); have n1_ := Aside0.mk (below_step (by repeat (first | (with_reducible first | exact HB.out | apply below_alloc | apply pw_below_drewN | apply below_drew1 | refine below_set ?_ GE126.out) | exact HB.out)) hb); clear BK126; clear HB; have BK126 := n0_; have HB := n1_; clear n0_ n1_; (try clear hb); (try clear hb2); (try clear hk); (try clear hi)) | ((with_reducible refine gate_callee (f := 52) rfl ?_); refine goesL_ (some 7) rfl rfl Try.func52 (by kernel_rfl) rfl #[.int .i64 0, .int .i64 30] rfl (by (try simp only [List.map_toArray, List.map_cons, List.map_nil]); first | done | rfl | (simp only [List.length_drop, List.length_take]; rfl)) ?_; (with_reducible refine (tidewalllaw08_span.calls 0 30 t133 t134 _ A4.out).mono ?_); rintro e w10 ⟨rfl, hb⟩; refine ⟨_, rfl, ?_⟩; have n0_ := Aside0.mk (blk_below (g := gb126) (o := .cells #[.int .i64 0, .int .i64 0, .slice none 0 0] 32 (0, 0)) (by (with_reducible repeat (first | refine blk_drewN ?_ _ | refine blk_drew ?_ | refine blk_alloc ?_ _)); exact BK126.out) hb); have n1_ := Aside0.mk (below_step (by repeat (first | (with_reducible first | exact HB.out | apply below_alloc | apply pw_below_drewN | apply below_drew1 | refine below_set ?_ GE126.out) | exact HB.out)) hb); clear BK126; clear HB; have BK126 := n0_; have HB := n1_; clear n0_ n1_; (try clear hb); (try clear hb2); (try clear hk); (try clear hi)) | ((with_reducible refine gate_callee (f := 52) rfl ?_); refine goesL_ (some 9) rfl rfl Try.func52 (by kernel_rfl) rfl #[.int .i64 1, .int .i64 5] rfl (by (try simp only [List.map_toArray, List.map_cons, List.map_nil]); first | done | rfl | (simp only [List.length_drop, List.length_take]; rfl)) ?_; (with_reducible refine (tidewalllaw08_span.calls 1 5 t135 t136 _ A5.out).mono ?_); rintro e w11 ⟨rfl, hb⟩; refine ⟨_, rfl, ?_⟩; have n0_ := Aside0.mk (blk_below (g := gb126) (o := .cells #[.int .i64 0, .int .i64 0, .slice none 0 0] 32 (0, 0)) (by (with_reducible repeat (first | refine blk_drewN ?_ _ | refine blk_drew ?_ | refine blk_alloc ?_ _)); exact BK126.out) hb); have n1_ := Aside0.mk (below_step (by repeat (first | (with_reducible first | exact HB.out | apply below_alloc | apply pw_below_drewN | apply below_drew1 | refine below_set ?_ GE126.out) | exact HB.out)) hb); clear BK126; clear HB; have BK126 := n0_; have HB := n1_; clear n0_ n1_; (try clear hb); (try clear hb2); (try clear hk); (try clear hi)) | ((with_reducible refine gate_dst (N := 11) rfl ?_); refine Kd.R_lit k88 _ 88 ?hg (N := 11) ?hd (xs := ([(⟨0, 1, (⟨t127, t128⟩ : S41), 0, true⟩ : S88), (⟨0, 2, (⟨t129, t130⟩ : S41), 1, true⟩ : S88), (⟨1, 3, (⟨t131, t132⟩ : S41), 0, true⟩ : S88), (⟨2, 3, (⟨t133, t134⟩ : S41), 2, true⟩ : S88), (⟨1, 2, (⟨t135, t136⟩ : S41), (-1), false⟩ : S88)] : List (S88))) (inner := [.int .i64 0, .int .i64 1, .int .i64 t127, .int .i64 t128, .int .i64 0, .bool true, .int .i64 0, .int .i64 2, .int .i64 t129, .int .i64 t130, .int .i64 1, .bool true, .int .i64 1, .int .i64 3, .int .i64 t131, .int .i64 t132, .int .i64 0, .bool true, .int .i64 2, .int .i64 3, .int .i64 t133, .int .i64 t134, .int .i64 2, .bool true, .int .i64 1, .int .i64 2, .int .i64 t135, .int .i64 t136, .int .i64 (-1), .bool false]) (ok := fun _ => True) (okp := fun _ => True) ?hr ?hp (fun _ hk => hk) trivial (Below.refl _ _) (Nat.le_refl _) (by simp) ?_; (case hd => rfl); (case hg => rfl); (case hr => first | (go_simp; done) | (go_simp; rfl)); (case hp => exact (Reps.c6 (show Kd.M k88 _ _ _ (⟨0, 1, (⟨t127, t128⟩ : S41), 0, true⟩ : S88) [.int .i64 0, .int .i64 1, .int .i64 t127, .int .i64 t128, .int .i64 0, .bool true] from (k88_mkM _ _ _ (⟨0, 1, (⟨t127, t128⟩ : S41), 0, true⟩ : S88) )) (Reps.c6 (show Kd.M k88 _ _ _ (⟨0, 2, (⟨t129, t130⟩ : S41), 1, true⟩ : S88) [.int .i64 0, .int .i64 2, .int .i64 t129, .int .i64 t130, .int .i64 1, .bool true] from (k88_mkM _ _ _ (⟨0, 2, (⟨t129, t130⟩ : S41), 1, true⟩ : S88) )) (Reps.c6 (show Kd.M k88 _ _ _ (⟨1, 3, (⟨t131, t132⟩ : S41), 0, true⟩ : S88) [.int .i64 1, .int .i64 3, .int .i64 t131, .int .i64 t132, .int .i64 0, .bool true] from (k88_mkM _ _ _ (⟨1, 3, (⟨t131, t132⟩ : S41), 0, true⟩ : S88) )) (Reps.c6 (show Kd.M k88 _ _ _ (⟨2, 3, (⟨t133, t134⟩ : S41), 2, true⟩ : S88) [.int .i64 2, .int .i64 3, .int .i64 t133, .int .i64 t134, .int .i64 2, .bool true] from (k88_mkM _ _ _ (⟨2, 3, (⟨t133, t134⟩ : S41), 2, true⟩ : S88) )) (Reps.c6 (show Kd.M k88 _ _ _ (⟨1, 2, (⟨t135, t136⟩ : S41), (-1), false⟩ : S88) [.int .i64 1, .int .i64 2, .int .i64 t135, .int .i64 t136, .int .i64 (-1), .bool false] from (k88_mkM _ _ _ (⟨1, 2, (⟨t135, t136⟩ : S41), (-1), false⟩ : S88) )) (Reps.none _ _))))))); intro v138 w12 ho13 hb hg_ hnew_; clear hg_ hnew_; (first | rw [← Ny137.out] at ho13 | (simp only [Int.reduceToNat] at ho13; rw [← Ny137.out] at ho13)); have n0_ := Aside0.mk (Kd.R_lower ho13 (below_size (by repeat (first | (with_reducible first | exact HB.out | apply below_alloc | apply pw_below_drewN | apply below_drew1 | refine below_set ?_ GE126.out) | exact HB.out)))); have n1_ := Aside0.mk (blk_below (g := gb126) (o := .cells #[.int .i64 0, .int .i64 0, .slice none 0 0] 32 (0, 0)) (by (with_reducible repeat (first | refine blk_drewN ?_ _ | refine blk_drew ?_ | refine blk_alloc ?_ _)); exact BK126.out) hb); have n2_ := Aside0.mk (below_step (by repeat (first | (with_reducible first | exact HB.out | apply below_alloc | apply pw_below_drewN | apply below_drew1 | refine below_set ?_ GE126.out) | exact HB.out)) hb); clear BK126; clear HB; have HO139 := n0_; have BK126 := n1_; have HB := n2_; clear n0_ n1_ n2_; clear hb ho13; obtain ⟨Ao14, co14, eo14⟩ := Kd.R_slice HO139.out; subst eo14; have hcz15_0 : w12.cell? ⟨gb126, 0, none⟩ = some (.int .i64 0) := (blk_cell BK126.out 0).trans rfl; have hcz15_1 : w12.cell? ⟨gb126, 1, none⟩ = some (.int .i64 0) := (blk_cell BK126.out 1).trans rfl; have hcz15_2 : w12.cell? ⟨gb126, 2, none⟩ = some (.slice none 0 0) := (blk_cell BK126.out 2).trans rfl; have hfz15_0 := blk_frozen BK126.out 0; have hfz15_1 := blk_frozen BK126.out 1; have hfz15_2 := blk_frozen BK126.out 2))
  refine bodyPost_ret (results_cell_row rfl _ _ gb126 32 #[.int .i64 4, .int .i64 3, .slice Ao14 y137.length co14] (0, 0) _ rfl (by (with_reducible repeat (first | refine blk_drewN ?_ _ | refine blk_drew ?_ | refine blk_alloc ?_ _)); refine blk_put (cs := #[.int .i64 4, .int .i64 3, .slice none 0 0]) ?_ 2 _ rfl; (with_reducible repeat (first | refine blk_drewN ?_ _ | refine blk_drew ?_ | refine blk_alloc ?_ _)); refine blk_put (cs := #[.int .i64 4, .int .i64 0, .slice none 0 0]) ?_ 1 _ rfl; (with_reducible repeat (first | refine blk_drewN ?_ _ | refine blk_drew ?_ | refine blk_alloc ?_ _)); refine blk_put (cs := #[.int .i64 0, .int .i64 0, .slice none 0 0]) ?_ 0 _ rfl; (with_reducible repeat (first | refine blk_drewN ?_ _ | refine blk_drew ?_ | refine blk_alloc ?_ _)); exact BK126.out) Try.underlying32 rfl (by kernel_rfl)) rfl ?_
  exact ⟨_, by first | rfl | (simp [errW_none, errW_some] <;> rfl) | (simp [*, errW_none, errW_some] <;> rfl), by (with_reducible repeat (first | apply Kd.R_alloc | apply Kd.R_drewN | apply Kd.R_drew)); exact Kd.R_mono (Kd.R_far (p := ⟨gb126, 2, none⟩) (Kd.R_far (p := ⟨gb126, 1, none⟩) (Kd.R_far (p := ⟨gb126, 0, none⟩) (Kd.R_types HO139.out BK126.out (by decide)) (fun _ hk => hk.2) (.int .i64 4)) (fun _ hk => hk.2) (.int .i64 3)) (fun _ hk => hk.2) (.slice Ao14 y137.length co14)) (fun _ hk => trivial), by repeat (first | (with_reducible first | exact HB.out | apply below_alloc | apply pw_below_drewN | apply below_drew1 | refine below_set ?_ GE126.out) | exact HB.out)⟩
def tidewalllaw08_S.f  : Option (Int × Int × Int) := (tidewalllaw08_span.f 100 100).bind fun bt141 => (some (0, bt141.1, bt141.2))
set_option maxHeartbeats 8000000 in
set_option maxRecDepth 100000 in
theorem tidewalllaw08_S.calls  (r1 : Int) (r2 : Int) (r3 : Int) (w : World) (h : tidewalllaw08_S.f  = some (r1, r2, r3)) :
    Calls Try.prog 50 #[] w fun e w' => e = .returned (.agg #[.int .i64 r1, .int .i64 r2, .int .i64 r3]) ∧ Below w.heap.size w w' := by
  have hu43 := Try.underlying43
  have HB := Aside0.mk (Below.refl w.heap.size w)
  have H : ((tidewalllaw08_span.f 100 100).bind fun bt141 => (some (0, bt141.1, bt141.2))) = some (r1, r2, r3) := h
  clear h
  replace H := Option.bind_eq_some_iff.mp H
  obtain ⟨⟨t141, t142⟩, A10, H⟩ := H
  replace H : (some (0, t141, t142)) = some (r1, r2, r3) := H
  have A1 := Aside0.mk A10
  clear A10
  simp only [Option.some.injEq, Prod.mk.injEq] at H
  obtain ⟨rfl, rfl, rfl⟩ := H
  go_enter Try.func50, Try.ntmps50
  go_wp2_with (first | ((with_reducible refine gate_dst (N := 0) rfl ?_); refine box_event ?hg (N := 0) ?hd (cs := #[.int .i64 0, .int .i64 0, .int .i64 0]) (t := 43) ?hr ?_; (case hd => rfl); (case hg => rfl); (case hr => first | (go_simp; done) | (go_simp; rfl)); intro gb140 hg w2 hbox hb; have n0_ := Aside0.mk (below_step (by repeat (first | (with_reducible first | exact HB.out | apply below_alloc | apply pw_below_drewN | apply below_drew1) | exact HB.out)) hb); have n1_ := Aside0.mk (hbox); have n2_ := Aside0.mk ((by rw [hg]; exact (below_size (by repeat (first | (with_reducible first | exact HB.out | apply below_alloc | apply pw_below_drewN | apply below_drew1) | exact HB.out))) : w.heap.size ≤ gb140)); have n3_ := Aside0.mk ((by rw [hg]; exact (below_size (by repeat (first | (with_reducible first | exact HB.out | apply below_alloc | apply pw_below_drewN | apply below_drew1) | exact HB.out))) : w.heap.size ≤ gb140)); clear HB; have HB := n0_; have BK140 := n1_; have GW140 := n2_; have GE140 := n3_; clear n0_ n1_ n2_ n3_; clear hb hbox hg) | ((with_reducible refine gate_callee (f := 52) rfl ?_); refine goesL_ (some 1) rfl rfl Try.func52 (by kernel_rfl) rfl #[.int .i64 100, .int .i64 100] rfl (by (try simp only [List.map_toArray, List.map_cons, List.map_nil]); first | done | rfl | (simp only [List.length_drop, List.length_take]; rfl)) ?_; (with_reducible refine (tidewalllaw08_span.calls 100 100 t141 t142 _ A1.out).mono ?_); rintro e w3 ⟨rfl, hb⟩; refine ⟨_, rfl, ?_⟩; have n0_ := Aside0.mk (blk_below (g := gb140) (o := .cells #[.int .i64 0, .int .i64 0, .int .i64 0] 43 (0, 0)) (by (with_reducible repeat (first | refine blk_drewN ?_ _ | refine blk_drew ?_ | refine blk_alloc ?_ _)); exact BK140.out) hb); have n1_ := Aside0.mk (below_step (by repeat (first | (with_reducible first | exact HB.out | apply below_alloc | apply pw_below_drewN | apply below_drew1 | refine below_set ?_ GE140.out) | exact HB.out)) hb); clear BK140; clear HB; have BK140 := n0_; have HB := n1_; clear n0_ n1_; (try clear hb); (try clear hb2); (try clear hk); (try clear hi); have hcz4_0 : w3.cell? ⟨gb140, 0, none⟩ = some (.int .i64 0) := (blk_cell BK140.out 0).trans rfl; have hcz4_1 : w3.cell? ⟨gb140, 1, none⟩ = some (.int .i64 0) := (blk_cell BK140.out 1).trans rfl; have hcz4_2 : w3.cell? ⟨gb140, 2, none⟩ = some (.int .i64 0) := (blk_cell BK140.out 2).trans rfl; have hfz4_0 := blk_frozen BK140.out 0; have hfz4_1 := blk_frozen BK140.out 1; have hfz4_2 := blk_frozen BK140.out 2))
  refine bodyPost_ret (results_cell_row rfl _ _ gb140 43 #[.int .i64 0, .int .i64 t141, .int .i64 t142] (0, 0) _ rfl (by (with_reducible repeat (first | refine blk_drewN ?_ _ | refine blk_drew ?_ | refine blk_alloc ?_ _)); refine blk_put (cs := #[.int .i64 0, .int .i64 t141, .int .i64 0]) ?_ 2 _ rfl; (with_reducible repeat (first | refine blk_drewN ?_ _ | refine blk_drew ?_ | refine blk_alloc ?_ _)); refine blk_put (cs := #[.int .i64 0, .int .i64 0, .int .i64 0]) ?_ 1 _ rfl; (with_reducible repeat (first | refine blk_drewN ?_ _ | refine blk_drew ?_ | refine blk_alloc ?_ _)); refine blk_put (cs := #[.int .i64 0, .int .i64 0, .int .i64 0]) ?_ 0 _ rfl; (with_reducible repeat (first | refine blk_drewN ?_ _ | refine blk_drew ?_ | refine blk_alloc ?_ _)); exact BK140.out) Try.underlying43 rfl (by kernel_rfl)) rfl ?_
  exact ⟨by first | rfl | (simp [errW_none, errW_some] <;> rfl) | (simp [*, errW_none, errW_some] <;> rfl), by repeat (first | (with_reducible first | exact HB.out | apply below_alloc | apply pw_below_drewN | apply below_drew1 | refine below_set ?_ GE140.out) | exact HB.out)⟩
def tidewalllaw08_fine.f  : Option (List Int) := some (([1, 1, 1] : List Int))
set_option maxHeartbeats 8000000 in
set_option maxRecDepth 100000 in
theorem tidewalllaw08_fine.calls  (r : List Int) (w : World) (h : tidewalllaw08_fine.f  = some r) :
    Calls Try.prog 51 #[] w fun e w' => ∃ v0_ : Value, e = .returned (v0_) ∧ Kd.R (Kd.int .i64) 3 w' w.heap.size (fun _ => True) v0_ r ∧ Below w.heap.size w w' := by
  have HB := Aside0.mk (Below.refl w.heap.size w)
  have H : (some (([1, 1, 1] : List Int))) = some r := h
  clear h
  obtain ⟨y143, hy143⟩ : ∃ y_ : List Int, y_ = (([1, 1, 1] : List Int)) := ⟨_, rfl⟩
  replace H : (some y143) = some r := by first | (rw [hy143]; with_reducible exact H) | (have H2_ := (Option.bind_some _ _).symm.trans H; rw [hy143]; with_reducible exact H2_) | (have H2_ := (Option.bind_some _ _).symm.trans H; with_reducible exact H2_) | with_reducible exact H | (rw [hy143]; exact H) | exact H
  have Ny143 := Aside0.mk hy143
  clear hy143
  obtain rfl := Option.some.inj H
  go_enter Try.func51, Try.ntmps51
  go_wp2_with (first | ((with_reducible refine gate_dst (N := 1) rfl ?_); refine Kd.R_lit (Kd.int .i64) _ 3 ?hg (N := 1) ?hd (xs := ([1, 1, 1] : List Int)) (inner := [.int .i64 1, .int .i64 1, .int .i64 1]) (ok := fun _ => True) (okp := fun _ => True) ?hr ?hp (fun _ hk => hk) trivial (Below.refl _ _) (Nat.le_refl _) (by simp) ?_; (case hd => rfl); (case hg => rfl); (case hr => first | (go_simp; done) | (go_simp; rfl)); (case hp => exact (Reps.one (show Kd.M (Kd.int .i64) _ _ _ 1 [.int .i64 1] from rfl) (Reps.one (show Kd.M (Kd.int .i64) _ _ _ 1 [.int .i64 1] from rfl) (Reps.one (show Kd.M (Kd.int .i64) _ _ _ 1 [.int .i64 1] from rfl) (Reps.none _ _))))); intro v144 w1 ho2 hb hg_ hnew_; clear hg_ hnew_; (first | rw [← Ny143.out] at ho2 | (simp only [Int.reduceToNat] at ho2; rw [← Ny143.out] at ho2)); have n0_ := Aside0.mk (Kd.R_lower ho2 (below_size (by repeat (first | (with_reducible first | exact HB.out | apply below_alloc | apply pw_below_drewN | apply below_drew1) | exact HB.out)))); have n1_ := Aside0.mk (below_step (by repeat (first | (with_reducible first | exact HB.out | apply below_alloc | apply pw_below_drewN | apply below_drew1) | exact HB.out)) hb); clear HB; have HO145 := n0_; have HB := n1_; clear n0_ n1_; clear hb ho2))
  go_ret
  exact ⟨_, by first | rfl | (simp [errW_none, errW_some] <;> rfl) | (simp [*, errW_none, errW_some] <;> rfl), by (with_reducible repeat (first | apply Kd.R_alloc | apply Kd.R_drewN | apply Kd.R_drew)); exact HO145.out, by repeat (first | (with_reducible first | exact HB.out | apply below_alloc | apply pw_below_drewN | apply below_drew1) | exact HB.out)⟩
def tidewalllaw08_due.f (a0 : Int) : Option (Int × Int) := some (3, a0)
set_option maxHeartbeats 8000000 in
set_option maxRecDepth 100000 in
theorem tidewalllaw08_due.calls (a0 : Int) (r1 : Int) (r2 : Int) (w : World) (h : tidewalllaw08_due.f a0 = some (r1, r2)) :
    Calls Try.prog 53 #[.int .i64 a0] w fun e w' => e = .returned (.agg #[.int .i64 r1, .int .i64 r2]) ∧ Below w.heap.size w w' := by
  have hu94 := Try.underlying94
  have HB := Aside0.mk (Below.refl w.heap.size w)
  have H : (some (3, a0)) = some (r1, r2) := h
  clear h
  simp only [Option.some.injEq, Prod.mk.injEq] at H
  obtain ⟨rfl, rfl⟩ := H
  go_enter Try.func53, Try.ntmps53
  go_wp2_with (first | ((with_reducible refine gate_dst (N := 2) rfl ?_); refine box_event ?hg (N := 2) ?hd (cs := #[.int .i64 0, .int .i64 0]) (t := 94) ?hr ?_; (case hd => rfl); (case hg => rfl); (case hr => first | (go_simp; done) | (go_simp; rfl)); intro gb146 hg w2 hbox hb; have n0_ := Aside0.mk (below_step (by repeat (first | (with_reducible first | exact HB.out | apply below_alloc | apply pw_below_drewN | apply below_drew1) | exact HB.out)) hb); have n1_ := Aside0.mk (hbox); have n2_ := Aside0.mk ((by rw [hg]; exact (below_size (by repeat (first | (with_reducible first | exact HB.out | apply below_alloc | apply pw_below_drewN | apply below_drew1) | exact HB.out))) : w.heap.size ≤ gb146)); have n3_ := Aside0.mk ((by rw [hg]; exact (below_size (by repeat (first | (with_reducible first | exact HB.out | apply below_alloc | apply pw_below_drewN | apply below_drew1) | exact HB.out))) : w.heap.size ≤ gb146)); clear HB; have HB := n0_; have BK146 := n1_; have GW146 := n2_; have GE146 := n3_; clear n0_ n1_ n2_ n3_; clear hb hbox hg; have hcz3_0 : w2.cell? ⟨gb146, 0, none⟩ = some (.int .i64 0) := (blk_cell BK146.out 0).trans rfl; have hcz3_1 : w2.cell? ⟨gb146, 1, none⟩ = some (.int .i64 0) := (blk_cell BK146.out 1).trans rfl; have hfz3_0 := blk_frozen BK146.out 0; have hfz3_1 := blk_frozen BK146.out 1))
  refine bodyPost_ret (results_cell_row rfl _ _ gb146 94 #[.int .i64 3, .int .i64 a0] (0, 0) _ rfl (by (with_reducible repeat (first | refine blk_drewN ?_ _ | refine blk_drew ?_ | refine blk_alloc ?_ _)); refine blk_put (cs := #[.int .i64 3, .int .i64 0]) ?_ 1 _ rfl; (with_reducible repeat (first | refine blk_drewN ?_ _ | refine blk_drew ?_ | refine blk_alloc ?_ _)); refine blk_put (cs := #[.int .i64 0, .int .i64 0]) ?_ 0 _ rfl; (with_reducible repeat (first | refine blk_drewN ?_ _ | refine blk_drew ?_ | refine blk_alloc ?_ _)); exact BK146.out) Try.underlying94 rfl (by kernel_rfl)) rfl ?_
  exact ⟨by first | rfl | (simp [errW_none, errW_some] <;> rfl) | (simp [*, errW_none, errW_some] <;> rfl), by repeat (first | (with_reducible first | exact HB.out | apply below_alloc | apply pw_below_drewN | apply below_drew1 | refine below_set ?_ GE146.out) | exact HB.out)⟩
end Go.Proofs.Ytgmglpnoppcnkaa.PB
end
section
namespace Go.Proofs.Ytgmglpnoppcnkaa
open Go.RowKit Go.Proofs.YtgmglpnoppcnkaaW.PrintWords Go.Proofs.YtgmglpnoppcnkaaW.PrintLast Go.Proofs.YtgmglpnoppcnkaaW.PrintMore
set_option linter.unusedVariables false
set_option linter.unusedSimpArgs false
theorem mul_one_tab : ((List.range 65).all fun n => decide (PB.bits_Mul.f 1 (n : Int) = some (0, (n : Int)))) = true := by decide +kernel
theorem mul_one (n : Nat) (h : n ≤ 64) : PB.bits_Mul.f 1 (n : Int) = some (0, (n : Int)) := by
  have := List.all_eq_true.1 mul_one_tab n (List.mem_range.2 (by omega))
  exact of_decide_eq_true this
theorem made_zero (n : Nat) : madeCells (Value.int .i64 0).cells n = (List.replicate n (Value.int .i64 0)).toArray := by
  apply Array.ext
  · simp [madeCells]
  · intro j h1 h2
    simp [madeCells, Value.cells, Nat.mod_one]
theorem splice_rep {α : Type} (x z : α) (k n m : Nat) (hm : m = Nat.min k (n - k)) (hk : k ≤ n) :
    splice (List.replicate k x ++ List.replicate (n - k) z) k (List.replicate m x) = List.replicate (k + m) x ++ List.replicate (n - (k + m)) z := by
  have hm1 : m ≤ n - k := by rw [hm]; exact Nat.min_le_right _ _
  unfold splice
  rw [List.take_left' (by simp), List.drop_append]
  simp
  rw [← List.append_assoc, List.replicate_append_replicate]
  congr 2
  omega
theorem rep_one (x : Int) (m : Nat) : ∀ v ∈ List.replicate m (Value.int .i64 x), v.oneCell' = true := fun v hv => by rw [List.eq_of_mem_replicate hv]; rfl
theorem copy_src {w : World} {g k m : Nat} {x : Value} {rest : List Value} (h : w.heap[g]? = some (.cells (List.replicate k x ++ rest).toArray 3 (0, 0))) (hm : m ≤ k) {j : Nat} {v : Value} (hj : (List.replicate m x)[j]? = some v) : w.cell? ((⟨g, 0, none⟩ : Addr).add j) = some v := by
  have hjm : j < m := by have := (List.getElem?_eq_some_iff.1 hj).1; simpa using this
  have hv : x = v := by simpa [List.getElem?_replicate, hjm] using hj
  subst hv
  have := blk_cell h j
  have e : (⟨g, 0, none⟩ : Addr).add j = ⟨g, j, none⟩ := by simp only [Addr.add]; split <;> simp_all
  rw [e, this]
  simp [List.getElem?_append_left, List.getElem?_replicate, show j < k by omega]
def Hold (p : Prop) : Prop := p
theorem hold {p : Prop} (h : Hold p) : p := h
/-- make([]int, n): a new row of zeros, as an event. -/
theorem make_event {ops : Array Oper} {rest : List Oper} {o : Oper} {a : Act} {Q : Exit → Act → World → Prop} {W : World} (hgd : o.guard = none) {N : Tmp} (_hd : o.dst = some N) (l c : Operand)
    (ho : o.op = Op.makeSlice 33 l c) (n : Nat) (hl : a.eval l = .int .i64 n) (hc : a.eval c = .int .i64 n) (hn : n ≤ 1000000)
    (h : ∀ g, g = W.heap.size → ∀ w1, w1.heap[g]? = some (.cells (List.replicate n (Value.int .i64 0)).toArray 3 (0, 0)) → Below W.heap.size W w1 → wpList Try.prog ops Q rest (a.put o.dst (.slice (some ⟨g, 0, none⟩) n n)) w1) : wpList Try.prog ops Q (o :: rest) a W := by
  obtain ⟨i0, hi, hz0, hz1, hz2⟩ := info_parts PB.info3
  have hmk := run_make (P := Try.prog) W 33 3 i0 (.int .i64 0) Try.underlying33 hi hz0 .i64 .i64 n n (by omega) (by omega) (by rw [hz2]; omega) (by omega)
  rw [hz1, Int.toNat_natCast, Nat.mul_one, made_zero] at hmk
  refine Kd.event_run (v := .slice (some ⟨W.heap.size, 0, none⟩) n n) (w1 := W.alloc (.cells (List.replicate n (Value.int .i64 0)).toArray 3)) hgd ?_ (h _ rfl _ (blk_new W _) (below_alloc (Below.refl _ _) _))
  simp only [execOp, ho, hl, hc, Sem.run_bind, hmk, Result.andThen]
  rfl
set_option maxRecDepth 100000 in
set_option maxHeartbeats 1000000 in
theorem repeat_calls (x : Int) (n : Nat) (w : World) (a : Addr) (hn : 1 ≤ n) (hn2 : n ≤ 64) (hc : w.cell? a = some (.int .i64 x)) :
    Calls Try.prog 64 #[.slice (some a) 1 1, .int .i64 n] w fun e w' => (∃ g, e = .returned (.slice (some ⟨g, 0, none⟩) n n) ∧ w.heap.size ≤ g ∧ w'.heap[g]? = some (.cells (List.replicate n (Value.int .i64 x)).toArray 3 (0, 0))) ∧ Below w.heap.size w w' := by
  have hw1 : IntKind.u64.wrap (n : Int) = n := by unfold IntKind.wrap; simp [IntKind.bits, IntKind.signed]; omega
  have hw2 : IntKind.i64.wrap (n : Int) = n := by rw [i64_w]; unfold wrap64; omega
  have hd1 : decide ((n : Int) < 0) = false := by simp
  have hm := mul_one n hn2
  go_enter Try.func64, Try.ntmps64
  go_wp2_with fail
  refine (PB.bits_Mul.calls 1 n 0 n w hm).mono ?_
  rintro e w1 ⟨rfl, ⟨nd, rfl⟩⟩
  clear hm
  go_wp2_with ((with_reducible refine gate_dst (N := 30) rfl ?_); refine hold ?_)
  refine make_event rfl (N := 30) rfl (.tmp 29) (.tmp 29) rfl n rfl rfl (by omega) ?_
  intro g hg w2 hb2 hB2
  have hL2 := (pw_below_drewN (Below.refl w.heap.size w) nd).trans hB2
  have HB := Aside0.mk hb2
  have HL := Aside0.mk hL2
  have HG := Aside0.mk (show w.heap.size ≤ g by rw [hg]; exact Nat.le_refl _)
  have HC := Aside0.mk ((hL2.cell (World.block_lt_of_cell? w _ hc)).trans hc)
  clear hb2 hB2 hg hc hL2
  go_wp2_with ((with_reducible refine gate_dst (N := 33) rfl ?_); refine hold ?_)
  refine wpList_copy_splice rfl (.tmp 31) (.tmp 32) 33 33 rfl 3 Try.underlying33 (by kernel_rfl) (some ⟨g, 0, none⟩) (some a) n n 1 1 rfl rfl g 0 (List.replicate n (Value.int .i64 0)) 3 HB.out [.int .i64 x] ?c1 ?c2 ?c3 (by simp [Value.oneCell']) w.heap.size w HL.out HG.out ?_
  case c1 => simp [Nat.min_eq_left hn]
  case c2 => 
    intro _
    refine ⟨rfl, a, rfl, fun j v hj => ?_⟩
    cases j with
    | zero => simp at hj; subst hj; simpa [Addr.add] using HC.out
    | succ j => simp at hj
  case c3 => simp; omega
  intro w3 hb3 hL3
  have HB3 := Aside0.mk hb3.out
  have HL3 := Aside0.mk hL3
  clear hb3 hL3 HB HL HC
  have e1 : splice (List.replicate n (Value.int .i64 0)) 0 [Value.int .i64 x] = List.replicate 1 (Value.int .i64 x) ++ List.replicate (n - 1) (Value.int .i64 0) := by
    have := splice_rep (Value.int .i64 x) (Value.int .i64 0) 0 n 0 (by simp) (by omega)
    obtain ⟨m, rfl⟩ : ∃ m, n = m + 1 := ⟨n - 1, by omega⟩
    simp [splice, List.replicate_succ]
  rw [e1] at HB3
  clear e1
  go_wp2
  go_loopw [8] (fun v wr => ∃ k : Nat, 1 ≤ k ∧ k ≤ n ∧ v = .int .i64 k ∧ Aside0 (wr.heap[g]? = some (.cells (List.replicate k (Value.int .i64 x) ++ List.replicate (n - k) (Value.int .i64 0)).toArray 3 (0, 0))) ∧ Aside0 (Below w.heap.size w wr)) (fun v _ => n - (intOf v).toNat)
  case atStart => exact ⟨1, by omega, hn, rfl, HB3, HL3⟩
  case round =>
    obtain ⟨k, hk1, hk2, rfl, HBk, HLk⟩ := hrel
    clear HB3 HL3
    by_cases hkn : k < n
    · obtain ⟨m, hm⟩ : ∃ m, m = Nat.min k (n - k) := ⟨_, rfl⟩
      have hm1 : m ≤ n - k := by rw [hm]; exact Nat.min_le_right _ _
      have hm2 : m ≤ k := by rw [hm]; exact Nat.min_le_left _ _
      have hm3 : 1 ≤ m := by rw [hm]; exact Nat.le_min.2 ⟨hk1, by omega⟩
      have HM := Aside0.mk hm
      have hne : ¬ n = k := by omega
      have hsum : IntKind.i64.wrap ((k : Int) + (m : Int)) = (k : Int) + (m : Int) := by rw [i64_w]; unfold wrap64; omega
      clear hm
      have HS := Aside0.mk (splice_rep (Value.int .i64 x) (Value.int .i64 0) k n m HM.out hk2)
      have HBd := Aside0.mk (blk_drew HBk.out)
      have HLd := Aside0.mk (below_drew HLk.out)
      go_wp2
      go_region_law (refine step_copy_splice rfl (.tmp 41) (.tmp 44) 33 33 rfl 3 Try.underlying33 (by kernel_rfl) (some ⟨g, k, none⟩) (some ⟨g, 0, none⟩) (n - k) (n - k) k n (by go_simp) (by go_simp) g k (List.replicate k (Value.int .i64 x) ++ List.replicate (n - k) (Value.int .i64 0)) 3 HBd.out (List.replicate m (Value.int .i64 x)) (by simpa using HM.out) (fun _ => ⟨rfl, _, rfl, fun j v hj => copy_src HBd.out hm2 hj⟩) (by simp; omega) (rep_one x m) w.heap.size w HLd.out HG.out ?_; intro w4 hb4 hL4; have HB4 := Aside0.mk hb4.out; have HL4 := Aside0.mk hL4; clear hb4 hL4)
      rw [HS.out] at HB4
      clear HS HBk HLk HBd HLd HM
      simp [go_sem, Act.put]
      go_roundw
      case rel => (repeat apply Exists.intro); exact ⟨⟨k + m, by omega, by omega, by go_num, HB4, HL4⟩, rfl⟩
      case measure => simp [intOf, goInt]; omega
    · obtain rfl : k = n := by omega
      clear hkn
      go_wp2
      go_ret
      exact ⟨⟨g, rfl, HG.out, by simpa using HBk.out⟩, HLk.out⟩
end Go.Proofs.Ytgmglpnoppcnkaa
end
section
namespace Go.Proofs.Ytgmglpnoppcnkaa
open Go.RowKit Go.Proofs.YtgmglpnoppcnkaaW.PrintWords Go.Proofs.YtgmglpnoppcnkaaW.PrintLast Go.Proofs.YtgmglpnoppcnkaaW.PrintMore
set_option linter.unusedVariables false
set_option linter.unusedSimpArgs false
/-- A set of units: twenty truth values. -/
def setCs (s : List Bool) : List Value := s.map Value.bool
theorem setCs_length (s : List Bool) : (setCs s).length = s.length := by simp [setCs]
/-- has: -1 is in none. -/
def hasB (s : List Bool) (u : Int) : Bool := decide (0 ≤ u) && s.getD u.toNat false
theorem info144 : (Try.prog.info? 144).map (·.size) = some 20 := by kernel_rfl
set_option maxRecDepth 100000
set_option maxHeartbeats 1000000 in
theorem has_calls (s : List Bool) (u : Int) (w : World) (hs : s.length = 20) (h0 : -1 ≤ u) (h1 : u < 20) :
    Calls Try.prog 106 #[.agg (setCs s).toArray, .int .i64 u] w fun e w' => e = .returned (.bool (hasB s u)) ∧ Below w.heap.size w w' := by
  by_cases hu : 0 ≤ u
  · obtain ⟨n, rfl⟩ := Int.eq_ofNat_of_zero_le hu
    have hd : decide (0 ≤ (n : Int)) = true := by simp
    have hn : n < s.length := by omega
    go_enter Try.func106, Try.ntmps106
    go_wp2_with ((with_reducible refine gate_dst (N := 2) rfl ?_); refine hold ?_)
    refine box_event rfl (N := 2) rfl (cs := (setCs s).toArray) (t := 144) (by go_simp) ?_
    intro g hg w1 hb hB
    have HB := Aside0.mk hB
    have hcell : w1.cell? ⟨g, n, none⟩ = some (.bool (hasB s n)) := by
      rw [blk_cell hb n]
      simp [setCs, hasB, List.getElem?_eq_getElem hn]
    clear hB hb hg hn hs
    go_wp2
    go_ret
    exact ⟨rfl, HB.out⟩
  · have hd : decide (0 ≤ u) = false := by simpa using hu
    have hr : hasB s u = false := by simp [hasB, hu]
    have HR := Aside0.mk hr
    clear hr
    go_enter Try.func106, Try.ntmps106
    go_wp2_with ((with_reducible refine gate_dst (N := 2) rfl ?_); refine hold ?_)
    refine box_event rfl (N := 2) rfl (cs := (setCs s).toArray) (t := 144) (by go_simp) ?_
    intro g hg w1 hb hB
    have HB := Aside0.mk hB
    clear hB hb hg hs
    go_wp2
    go_ret
    exact ⟨by rw [HR.out]; rfl, HB.out⟩
/-- least's order: by the time. -/
theorem less_calls (n1 t1 n2 t2 : Int) (w : World) :
    Calls Try.prog 119 #[.agg #[.int .i64 n1, .int .i64 t1], .agg #[.int .i64 n2, .int .i64 t2]] w fun e w' => e = .returned (.bool (decide (t1 < t2))) ∧ Below w.heap.size w w' := by
  go_enter Try.func119, Try.ntmps119
  go_wp2
  go_ret
  exact ⟨rfl, below_alloc (below_alloc (Below.refl _ _) _) _⟩
/-- A link's cells. -/
def linkCs (l : PB.S88) : Array Value := #[.int .i64 l.f0, .int .i64 l.f1, .int .i64 l.f2.f0, .int .i64 l.f2.f1, .int .i64 l.f3, .bool l.f4]
theorem range_below {w W : World} {b o : Nat} {cs : List Value} (h : w.rangeAt b o cs) (hB : Below w.heap.size w W) : W.rangeAt b o cs := fun j v hj => (hB.cell (World.block_lt_of_cell? w _ (h j v hj))).trans (h j v hj)
/-- What a region's loads ask stays true behind a call that leaves old memory alone. -/
theorem keepC {w1 W W' : World} {X : World → Prop} (hX : ∀ W, Below w1.heap.size w1 W → X W) (h : Below w1.heap.size w1 W ∧ X W) (h' : Below W.heap.size W W') : Below w1.heap.size w1 W' ∧ X W' :=
  ⟨below_step h.1 h', hX _ (below_step h.1 h')⟩
theorem keepC0 {w1 : World} {X : World → Prop} (hX : ∀ W, Below w1.heap.size w1 W → X W) : Below w1.heap.size w1 w1.drew ∧ X w1.drew :=
  ⟨below_drew1 (Below.refl _ _), hX _ (below_drew1 (Below.refl _ _))⟩
/-- first's closure: the least delay; whether its unit has not failed. -/
theorem first1_calls (s : List Bool) (l : PB.S88) (b : Nat) (w : World) (hs : s.length = 20) (h0 : -1 ≤ l.f3) (h1 : l.f3 < 20) (hb : w.rangeAt b 0 (setCs s)) (hlt : b < w.heap.size) :
    Calls Try.prog 105 #[.agg (linkCs l), .pointer (some ⟨b, 0, none⟩)] w fun e w' => e = .returned (.tuple #[.int .i64 l.f2.f0, .bool (!hasB s l.f3)]) ∧ Below w.heap.size w w' := by
  unfold linkCs
  go_enter Try.func105, Try.ntmps105
  go_wp2_with ((with_reducible refine gate_dst (N := 2) rfl ?_); refine hold ?_)
  refine box_event rfl (N := 2) rfl (cs := linkCs l) (t := 88) (by unfold linkCs; go_simp) ?_
  intro g hg w1 hb1 hB
  have HB := Aside0.mk hB
  have c2 : ∀ W, Below w1.heap.size w1 W → W.cell? ⟨g, 2, none⟩ = some (.int .i64 l.f2.f0) := fun W h => blk_cell (blk_below hb1 h) 2
  have c4 : ∀ W, Below w1.heap.size w1 W → W.cell? ⟨g, 4, none⟩ = some (.int .i64 l.f3) := fun W h => blk_cell (blk_below hb1 h) 4
  have hr1 := range_below hb hB
  have hu144 := Try.underlying144
  have hi144 : (Try.prog.info? 144).map (·.size) = some (setCs s).length := by rw [setCs_length, hs]; exact info144
  have HR := Aside0.mk hr1
  have HS := Aside0.mk hs
  clear hB hb1 hg hb hlt hr1 hs
  go_wp2
  go_region_held3 (fun W => Below w1.heap.size w1 W ∧ W.rangeAt b 0 (setCs s)) (first | exact keepC0 (fun W h => range_below HR.out h) | exact keepC (fun W h => range_below HR.out h) (by assumption) (by assumption)) (first | (go_at_call 106; refine (has_calls s l.f3 _ HS.out h0 h1).mono ?_; rintro e w' ⟨rfl, hbh⟩))
  rename_i hh
  have HH := Aside0.mk hh.1
  clear hh hbh c2 c4 hu144 hi144
  go_wp2
  go_ret2
  exact ⟨rfl, below_step HB.out HH.out⟩
/-- last's closure: the greatest delay; whether the link is sure and its unit is none of those. -/
theorem last1_calls (s : List Bool) (l : PB.S88) (b : Nat) (w : World) (hs : s.length = 20) (h0 : -1 ≤ l.f3) (h1 : l.f3 < 20) (hb : w.rangeAt b 0 (setCs s)) (hlt : b < w.heap.size) :
    Calls Try.prog 116 #[.agg (linkCs l), .pointer (some ⟨b, 0, none⟩)] w fun e w' => e = .returned (.tuple #[.int .i64 l.f2.f1, .bool (l.f4 && !hasB s l.f3)]) ∧ Below w.heap.size w w' := by
  obtain ⟨fr, tu, ⟨lo, hi⟩, un, sure⟩ := l
  simp only at h0 h1 ⊢
  cases sure
  · unfold linkCs
    go_enter Try.func116, Try.ntmps116
    go_wp2_with ((with_reducible refine gate_dst (N := 2) rfl ?_); refine hold ?_)
    refine box_event rfl (N := 2) rfl (cs := #[.int .i64 fr, .int .i64 tu, .int .i64 lo, .int .i64 hi, .int .i64 un, .bool false]) (t := 88) (by go_simp) ?_
    intro g hg w1 hb1 hB
    have HB := Aside0.mk hB
    have c3 : w1.cell? ⟨g, 3, none⟩ = some (.int .i64 hi) := blk_cell hb1 3
    have c5 : w1.cell? ⟨g, 5, none⟩ = some (.bool false) := blk_cell hb1 5
    clear hB hb1 hg hb hlt
    go_wp2
    go_quiet (fail)
    go_wp2
    go_ret2
    exact ⟨rfl, by repeat (first | exact HB.out | apply pw_below_drewN | apply below_drew1)⟩
  · unfold linkCs
    go_enter Try.func116, Try.ntmps116
    go_wp2_with ((with_reducible refine gate_dst (N := 2) rfl ?_); refine hold ?_)
    refine box_event rfl (N := 2) rfl (cs := #[.int .i64 fr, .int .i64 tu, .int .i64 lo, .int .i64 hi, .int .i64 un, .bool true]) (t := 88) (by go_simp) ?_
    intro g hg w1 hb1 hB
    have HB := Aside0.mk hB
    have c3 : ∀ W, Below w1.heap.size w1 W → W.cell? ⟨g, 3, none⟩ = some (.int .i64 hi) := fun W h => blk_cell (blk_below hb1 h) 3
    have c4 : ∀ W, Below w1.heap.size w1 W → W.cell? ⟨g, 4, none⟩ = some (.int .i64 un) := fun W h => blk_cell (blk_below hb1 h) 4
    have c5 : ∀ W, Below w1.heap.size w1 W → W.cell? ⟨g, 5, none⟩ = some (.bool true) := fun W h => blk_cell (blk_below hb1 h) 5
    have hr1 := range_below hb hB
    have hu144 := Try.underlying144
    have hi144 : (Try.prog.info? 144).map (·.size) = some (setCs s).length := by rw [setCs_length, hs]; exact info144
    have HR := Aside0.mk hr1
    have HS := Aside0.mk hs
    clear hB hb1 hg hb hlt hr1 hs
    go_wp2
    go_region_held3 (fun W => Below w1.heap.size w1 W ∧ W.rangeAt b 0 (setCs s)) (first | exact keepC0 (fun W h => range_below HR.out h) | exact keepC (fun W h => range_below HR.out h) (by assumption) (by assumption)) (first | (go_at_call 106; refine (has_calls s un _ HS.out h0 h1).mono ?_; rintro e w' ⟨rfl, hbh⟩))
    rename_i hh
    have HH := Aside0.mk hh.1
    clear hh hbh c3 c4 c5 hu144 hi144
    go_wp2
    go_ret2
    exact ⟨rfl, below_step HB.out HH.out⟩
end Go.Proofs.Ytgmglpnoppcnkaa
end
section
namespace Go.Proofs.Ytgmglpnoppcnkaa
open Go.RowKit Go.Proofs.YtgmglpnoppcnkaaW.PrintWords Go.Proofs.YtgmglpnoppcnkaaW.PrintLast Go.Proofs.YtgmglpnoppcnkaaW.PrintMore
set_option linter.unusedVariables false
set_option linter.unusedSimpArgs false
set_option maxRecDepth 100000
/-- w' is w but for new blocks and for blocks of S. -/
structure Kp (w w' : World) (S : Nat → Prop) : Prop where
  os : w'.os = w.os
  tape : w'.tape = w.tape
  output : w'.output = w.output
  size : w.heap.size ≤ w'.heap.size
  block : ∀ i, i < w.heap.size → ¬ S i → w'.heap[i]? = w.heap[i]?
theorem Kp.refl (w : World) (S : Nat → Prop) : Kp w w S := ⟨rfl, rfl, rfl, Nat.le_refl _, fun _ _ _ => rfl⟩
theorem Kp.trans {a b c : World} {S T U : Nat → Prop} (h : Kp a b S) (k : Kp b c T) (hS : ∀ i, S i → U i) (hT : ∀ i, i < a.heap.size → T i → U i) : Kp a c U :=
  ⟨k.os.trans h.os, k.tape.trans h.tape, k.output.trans h.output, Nat.le_trans h.size k.size, fun i hi hn =>
    (k.block i (Nat.lt_of_lt_of_le hi h.size) (fun t => hn (hT i hi t))).trans (h.block i hi (fun s => hn (hS i s)))⟩
theorem Kp.mono {a b : World} {S U : Nat → Prop} (h : Kp a b S) (hS : ∀ i, i < a.heap.size → S i → U i) : Kp a b U := ⟨h.os, h.tape, h.output, h.size, fun i hi hn => h.block i hi (fun s => hn (hS i hi s))⟩
theorem Kp.of_below {w w' : World} (h : Below w.heap.size w w') (S : Nat → Prop) : Kp w w' S := ⟨h.os, h.tape, h.output, h.size, fun i hi _ => h.block i hi⟩
theorem Kp.drew (w : World) (S : Nat → Prop) : Kp w w.drew S := ⟨rfl, rfl, rfl, Nat.le_refl _, fun _ _ _ => rfl⟩
theorem Kp.below {w w' : World} {S : Nat → Prop} {B : Nat} (h : Kp w w' S) (hB : B ≤ w.heap.size) (hS : ∀ i, S i → B ≤ i) : Below B w w' :=
  ⟨h.os, h.tape, h.output, h.size, fun k hk => h.block k (by omega) (fun s => by have := hS k s; omega)⟩
theorem Kp.blk {w w' : World} {S : Nat → Prop} {g : Nat} {o : Obj} (h : Kp w w' S) (hb : w.heap[g]? = some o) (hn : ¬ S g) : w'.heap[g]? = some o := (h.block g (blk_lt hb) hn).trans hb
theorem Kp.grown {w w' : World} {row : Option Nat} (h : w.grownBy w' row) : Kp w w' (fun i => some i = row) := ⟨h.os, h.tape, h.output, h.size, fun i hi hn => h.block i hi hn⟩
theorem Kp.setCell (w : World) (g j : Nat) (u : Value) : Kp w (w.setCell ⟨g, j, none⟩ u) (fun i => i = g) :=
  ⟨rfl, rfl, rfl, by simp [World.setCell], fun i hi hn => Below.heap_setCell w ⟨g, j, none⟩ u i hn⟩
/-- The heap lies at gh: its slice sv, of a row of the call's own (from block B on). -/
structure HeapAt (w : World) (gh B : Nat) (sv : Value) (l : List Vis) : Prop where
  blk : w.heap[gh]? = some (.cells #[sv, .func (.func 119) #[] #[]] 218 (0, 0))
  own : w.ownsRow B 214 2 sv l.length (visCs l)
theorem HeapAt.kp {w w' : World} {gh B : Nat} {sv : Value} {l : List Vis} {S : Nat → Prop} (h : HeapAt w gh B sv l) (k : Kp w w' S) (h1 : ¬ S gh) (h2 : ∀ i, sv.ownBlock = some i → ¬ S i) : HeapAt w' gh B sv l :=
  ⟨k.blk h.blk h1, own_move h.own (fun i hi => k.block i (own_lt h.own i hi) (h2 i hi))⟩
/-- The row's block is none of a block of another type. -/
theorem own_ne {w : World} {g t e B size n : Nat} {cs : Array Value} {v : Value} {xs : List Value} (hb : w.heap[g]? = some (.cells cs t (0, 0))) (ho : w.ownsRow B e size v n xs) (hne : e ≠ t) : v.ownBlock ≠ some g := fun h => by
  obtain ⟨cells, hc⟩ := own_typed ho g h
  rw [hc] at hb
  injection hb with hb
  injection hb with _ hb
  exact hne hb
theorem info214 : (Try.prog.info? 214).map (fun i => (i.zero, i.size, i.bytes)) = some (some (.agg #[.int .i64 0, .int .i64 0]), 2, 16) := by kernel_rfl
/-- What put leaves. -/
def PutPost (w : World) (gh B : Nat) (sv : Value) (l' : List Vis) (w' : World) : Prop :=
  ∃ sv', HeapAt w' gh B sv' l' ∧ Kp w w' (fun i => i = gh ∨ some i = sv.ownBlock) ∧ (∀ k, sv'.ownBlock = some k → sv.ownBlock = some k ∨ w.heap.size ≤ k)
/-- What stands behind the append: the heap's fields as they were; the row anew. -/
def AppAt (w : World) (gh B : Nat) (sv : Value) (l1 : List Vis) (g cap : Nat) (w2 : World) : Prop :=
  w2.heap[gh]? = some (.cells #[sv, .func (.func 119) #[] #[]] 218 (0, 0)) ∧ w2.ownsRow B 214 2 (.slice (some ⟨g, 0, none⟩) l1.length cap) l1.length (visCs l1) ∧
  Kp w w2 (fun i => i = gh ∨ some i = sv.ownBlock) ∧ (sv.ownBlock = some g ∨ w.heap.size ≤ g)
theorem append_post {w w1 W2 w2 : World} {gh B g cap : Nat} {sv : Value} {l : List Vis} {n t : Int} (hk1 : Kp w w1 (fun _ => False)) (hh : HeapAt w1 gh B sv l) (hk2 : Kp w1 W2 (fun _ => False))
    (ho : w2.ownsRow B 214 2 (.slice (some ⟨g, 0, none⟩) (l.length + 1) cap) (l.length + 1) (visCs l ++ [.int .i64 n, .int .i64 t])) (hg : W2.grownBy w2 sv.ownBlock) (hor : sv.ownBlock = some g ∨ g = W2.heap.size) (hlt : g < w2.heap.size) :
    w2.cell? ⟨gh, 0, none⟩ = some sv ∧ w2.frozen? ⟨gh, 0, none⟩ = false ∧ AppAt w gh B sv (l ++ [(n, t)]) g cap w2 := by
  have hh2 := hh.kp hk2 (by simp) (by simp)
  have hb : w2.heap[gh]? = some (.cells #[sv, .func (.func 119) #[] #[]] 218 (0, 0)) := blk_grown hh2.blk hg (fun e => own_ne hh2.blk hh2.own (by decide) e.symm)
  have hK : Kp w w2 (fun i => i = gh ∨ some i = sv.ownBlock) := (hk1.trans hk2 (fun _ h => h) (fun _ _ h => h)).trans (Kp.grown hg) (fun _ h => h.elim) (fun _ _ h => .inr h)
  refine ⟨blk_cell hb 0, blk_frozen hb 0, hb, ?_, hK, ?_⟩
  · rw [visCs_append]
    simpa [visCs, visC] using ho
  · exact hor.imp id (fun e => by have := (hk1.trans hk2 (fun _ h => h) (fun _ _ h => h)).size; omega)
/-- At the head of put's loop. -/
structure PutInv (w : World) (gh B : Nat) (sv : Value) (l1 : List Vis) (g cap N : Nat) (k : Nat) (lk : List Vis) (wr : World) : Prop where
  blk : wr.heap[gh]? = some (.cells #[.slice (some ⟨g, 0, none⟩) N cap, .func (.func 119) #[] #[]] 218 (0, 0))
  own : wr.ownsRow B 214 2 (.slice (some ⟨g, 0, none⟩) lk.length cap) lk.length (visCs lk)
  len : lk.length = N
  len1 : l1.length = N
  sift : siftUp lk k = siftUp l1 (l1.length - 1)
  kp : Kp w wr (fun i => i = gh ∨ some i = sv.ownBlock)
  row : sv.ownBlock = some g ∨ w.heap.size ≤ g
theorem PutInv.cell0 {w : World} {gh B : Nat} {sv : Value} {l1 : List Vis} {g cap N k : Nat} {lk : List Vis} {wr : World} (h : PutInv w gh B sv l1 g cap N k lk wr) : wr.cell? ⟨gh, 0, none⟩ = some (.slice (some ⟨g, 0, none⟩) N cap) := blk_cell h.blk 0
theorem PutInv.cell1 {w : World} {gh B : Nat} {sv : Value} {l1 : List Vis} {g cap N k : Nat} {lk : List Vis} {wr : World} (h : PutInv w gh B sv l1 g cap N k lk wr) : wr.cell? ⟨gh, 1, none⟩ = some (.func (.func 119) #[] #[]) := blk_cell h.blk 1
theorem PutInv.at0 {w : World} {gh B : Nat} {sv : Value} {l1 : List Vis} {g cap N k : Nat} {lk : List Vis} {wr : World} (h : PutInv w gh B sv l1 g cap N k lk wr) (i : Nat) (hi : i < lk.length) : wr.cell? ⟨g, i * 2, none⟩ = some (.int .i64 (vat lk i).1) := by
  rw [h.own.cellAt (i * 2) (by omega)]; exact visCs_get0 lk i hi
theorem PutInv.at1 {w : World} {gh B : Nat} {sv : Value} {l1 : List Vis} {g cap N k : Nat} {lk : List Vis} {wr : World} (h : PutInv w gh B sv l1 g cap N k lk wr) (i : Nat) (hi : i < lk.length) : wr.cell? ⟨g, i * 2 + 1, none⟩ = some (.int .i64 (vat lk i).2) := by
  rw [h.own.cellAt (i * 2 + 1) (by omega)]; exact visCs_get1 lk i hi
theorem PutInv.free {w : World} {gh B : Nat} {sv : Value} {l1 : List Vis} {g cap N k : Nat} {lk : List Vis} {wr : World} (h : PutInv w gh B sv l1 g cap N k lk wr) (i : Nat) : wr.frozen? ⟨g, i, none⟩ = false := h.own.frozenAt i
/-- What leaves old memory alone leaves the relation. -/
theorem PutInv.keep {w : World} {gh B : Nat} {sv : Value} {l1 : List Vis} {g cap N k : Nat} {lk : List Vis} {wr W : World} (h : PutInv w gh B sv l1 g cap N k lk wr) (hb : Below wr.heap.size wr W) : PutInv w gh B sv l1 g cap N k lk W :=
  ⟨blk_below h.blk hb, own_move h.own (fun i hi => hb.block i (own_lt h.own i hi)), h.len, h.len1, h.sift, h.kp.trans (Kp.of_below hb (fun _ => False)) (fun _ h => h) (fun _ _ h => h.elim), h.row⟩
theorem swap_facts {w : World} {gh B : Nat} {sv : Value} {l1 : List Vis} {g cap N k k' j : Nat} {lk : List Vis} {wr : World} (h : PutInv w gh B sv l1 g cap N k' lk wr) (hk : k < N) (hj : j < N) :
    wr.cell? ⟨gh, 0, none⟩ = some (.slice (some ⟨g, 0, none⟩) N cap) ∧ wr.cell? ⟨g, k * 2, none⟩ = some (.int .i64 (vat lk k).1) ∧ wr.cell? ⟨g, k * 2 + 1, none⟩ = some (.int .i64 (vat lk k).2) ∧
    wr.cell? ⟨g, j * 2, none⟩ = some (.int .i64 (vat lk j).1) ∧ wr.cell? ⟨g, j * 2 + 1, none⟩ = some (.int .i64 (vat lk j).2) ∧
    wr.frozen? ⟨g, k * 2, none⟩ = false ∧ wr.frozen? ⟨g, k * 2 + 1, none⟩ = false ∧ wr.frozen? ⟨g, j * 2, none⟩ = false ∧ wr.frozen? ⟨g, j * 2 + 1, none⟩ = false :=
  ⟨h.cell0, h.at0 k (by rw [h.len]; exact hk), h.at1 k (by rw [h.len]; exact hk), h.at0 j (by rw [h.len]; exact hj), h.at1 j (by rw [h.len]; exact hj), h.free _, h.free _, h.free _, h.free _⟩
theorem siftUp_stop (l : List Vis) (k j : Nat) (hj : j = (k - 1) / 2) (h : k = 0 ∨ ¬ (vat l k).2 < (vat l j).2) : siftUp l k = l := by
  rw [siftUp, dif_neg]
  rintro ⟨h1, h2⟩
  rcases h with h | h
  · omega
  · exact h (by rw [hj]; exact h2)
theorem siftUp_go (l : List Vis) (k j : Nat) (hj : j = (k - 1) / 2) (h0 : 0 < k) (h : (vat l k).2 < (vat l j).2) : siftUp l k = siftUp (swapL l k j) j := by
  subst hj
  rw [siftUp, dif_pos ⟨h0, h⟩]
theorem put_done {w : World} {gh B : Nat} {sv : Value} {l1 : List Vis} {g cap N k j : Nat} {lk : List Vis} {wr : World} (h : PutInv w gh B sv l1 g cap N k lk wr) (hs : k = 0 ∨ ¬ (vat lk k).2 < (vat lk j).2) (hj : j = (k - 1) / 2) (hB : B ≤ w.heap.size) :
    PutPost w gh B sv (siftUp l1 (N - 1)) wr := by
  have e : siftUp l1 (N - 1) = lk := by rw [← h.len1, ← h.sift]; exact siftUp_stop lk k j hj hs
  rw [e]
  refine ⟨.slice (some ⟨g, 0, none⟩) N cap, ⟨h.blk, by have := h.own; rw [h.len] at this ⊢; exact this⟩, h.kp, fun i hi => ?_⟩
  have : g = i := by simpa [Value.ownBlock] using hi
  subst this
  exact h.row
theorem put_swap {w : World} {gh B : Nat} {sv : Value} {l1 : List Vis} {g cap N k j : Nat} {lk : List Vis} {wr : World} (h : PutInv w gh B sv l1 g cap N k lk wr) (hk : k < N) (hk0 : 0 < k) (hj : j = (k - 1) / 2) (ht : (vat lk k).2 < (vat lk j).2) :
    PutInv w gh B sv l1 g cap N j (swapL lk k j) ((((wr.setCell ⟨g, k * 2, none⟩ (.int .i64 (vat lk j).1)).setCell ⟨g, k * 2 + 1, none⟩ (.int .i64 (vat lk j).2)).setCell ⟨g, j * 2, none⟩ (.int .i64 (vat lk k).1)).setCell ⟨g, j * 2 + 1, none⟩ (.int .i64 (vat lk k).2)).drew := by
  have hne : gh ≠ g := fun e => own_ne h.blk h.own (by decide) (by simp [Value.ownBlock, e])
  have o1 := h.own.stored (k * 2) (.int .i64 (vat lk j).1)
  have o2 := o1.1.stored (k * 2 + 1) (.int .i64 (vat lk j).2)
  have o3 := o2.1.stored (j * 2) (.int .i64 (vat lk k).1)
  have o4 := o3.1.stored (j * 2 + 1) (.int .i64 (vat lk k).2)
  have e : (((((visCs lk).set (k * 2) (.int .i64 (vat lk j).1)).set (k * 2 + 1) (.int .i64 (vat lk j).2)).set (j * 2) (.int .i64 (vat lk k).1)).set (j * 2 + 1) (.int .i64 (vat lk k).2)) = visCs (swapL lk k j) := by
    rw [visCs_set, visCs_set]; rfl
  refine ⟨?_, ?_, by rw [swapL_length]; exact h.len, h.len1, ?_, ?_, h.row⟩
  · exact blk_drew (blk_far (blk_far (blk_far (blk_far h.blk hne _) hne _) hne _) hne _)
  · have := o4.1
    rw [e] at this
    rw [swapL_length]
    exact this.drew
  · rw [← h.sift]; exact (siftUp_go lk k j hj hk0 ht).symm
  · have hg : ∀ i, i < w.heap.size → i = g → i = gh ∨ some i = sv.ownBlock := fun i hi e => by
      subst e
      rcases h.row with h1 | h1
      · exact .inr h1.symm
      · omega
    have k1 := h.kp.trans (Kp.setCell wr g (k * 2) (.int .i64 (vat lk j).1)) (U := fun i => i = gh ∨ some i = sv.ownBlock) (fun _ h => h) hg
    have k2 := k1.trans (Kp.setCell _ g (k * 2 + 1) (.int .i64 (vat lk j).2)) (U := fun i => i = gh ∨ some i = sv.ownBlock) (fun _ h => h) hg
    have k3 := k2.trans (Kp.setCell _ g (j * 2) (.int .i64 (vat lk k).1)) (U := fun i => i = gh ∨ some i = sv.ownBlock) (fun _ h => h) hg
    have k4 := k3.trans (Kp.setCell _ g (j * 2 + 1) (.int .i64 (vat lk k).2)) (U := fun i => i = gh ∨ some i = sv.ownBlock) (fun _ h => h) hg
    exact k4.trans (Kp.drew _ (fun _ => False)) (fun _ h => h) (fun _ _ h => h.elim)
theorem put_store {w w2 : World} {gh B g cap : Nat} {sv : Value} {l : List Vis} {n t : Int} (h : AppAt w gh B sv (l ++ [(n, t)]) g cap w2) :
    PutInv w gh B sv (l ++ [(n, t)]) g cap (l.length + 1) l.length (l ++ [(n, t)]) (w2.setCell ⟨gh, 0, none⟩ (.slice (some ⟨g, 0, none⟩) (l.length + 1) cap)) := by
  obtain ⟨hb, ho, hk, hr⟩ := h
  refine ⟨?_, ?_, by simp, by simp, by simp, ?_, hr⟩
  · simpa using blk_set hb 0 (.slice (some ⟨g, 0, none⟩) (l.length + 1) cap)
  · exact own_move ho (fun k hk => Below.heap_setCell _ _ _ _ (fun e => own_ne hb ho (by decide) (by rw [hk, e])))
  · exact hk.trans (Kp.setCell _ _ _ _) (fun _ h => h) (fun _ _ h => .inl h)
set_option maxHeartbeats 4000000 in
theorem put_calls (gh B : Nat) (sv : Value) (l : List Vis) (n t : Int) (w : World) (hh : HeapAt w gh B sv l) (hB : B ≤ w.heap.size) (hlen : l.length ≤ 100000) :
    Calls Try.prog 120 #[.pointer (some ⟨gh, 0, none⟩), .agg #[.int .i64 n, .int .i64 t]] w fun e w' => e = .returned (.tuple #[]) ∧ PutPost w gh B sv (siftUp (l ++ [(n, t)]) l.length) w' := by
  obtain ⟨i0, hi, hz0, hz1, hz2⟩ := info_parts info214
  go_enter Try.func120, Try.ntmps120
  go_wp2_with ((with_reducible refine gate_dst (N := 3) rfl ?_); refine hold ?_)
  refine box_event rfl (N := 3) rfl (cs := #[.int .i64 n, .int .i64 t]) (t := 214) (by go_simp) ?_
  intro gx hgx w1 hbx hBx
  have HX := Aside0.mk hbx
  have hk1 : Kp w w1 (fun _ => False) := Kp.of_below hBx _
  have hh1 := hh.kp hk1 (by simp) (by simp)
  have HH := Aside0.mk hh1
  have HK1 := Aside0.mk hk1
  have c0 : w1.drew.cell? ⟨gh, 0, none⟩ = some sv := blk_cell (blk_drew hh1.blk) 0
  have f0 : w1.drew.frozen? ⟨gh, 0, none⟩ = false := blk_frozen (blk_drew hh1.blk) 0
  have cx0 : w1.drew.cell? ⟨gx, 0, none⟩ = some (.int .i64 n) := blk_cell (blk_drew hbx) 0
  have cx1 : w1.drew.cell? ⟨gx, 1, none⟩ = some (.int .i64 t) := blk_cell (blk_drew hbx) 1
  clear hbx hBx hk1 hh1 hgx
  have HW := Aside0.mk hh
  have HL := Aside0.mk hlen
  clear hh hlen
  obtain ⟨W2, hW2⟩ : ∃ W2, (w1.alloc (.cells #[.int .i64 n, .int .i64 t] 214)).drew = W2 := ⟨_, rfl⟩
  have hownA : Aside0 ((w1.alloc (.cells #[.int .i64 n, .int .i64 t] 214)).drew.ownsRow B 214 2 sv l.length (visCs l)) := ⟨(HH.out.own.alloc _).drew⟩
  have hnewsA : Aside0 (∀ j u, [Value.int .i64 n, Value.int .i64 t][j]? = some u → (w1.alloc (.cells #[.int .i64 n, .int .i64 t] 214)).drew.cell? ((⟨w1.heap.size, 0, none⟩ : Addr).add j) = some u) :=
    ⟨World.news_of_block (w := (w1.alloc (.cells #[.int .i64 n, .int .i64 t] 214)).drew) (cs := #[.int .i64 n, .int .i64 t]) (blk_drew (blk_new w1 _))⟩
  have hk2 : Aside0 (Kp w1 (w1.alloc (.cells #[.int .i64 n, .int .i64 t] 214)).drew (fun _ => False)) := ⟨Kp.of_below (below_drew1 (below_alloc (Below.refl _ _) _)) _⟩
  have hBA : Aside0 (B ≤ (w1.alloc (.cells #[.int .i64 n, .int .i64 t] 214)).drew.heap.size) := ⟨Nat.le_trans hB (Nat.le_trans HK1.out.size hk2.out.size)⟩
  have cA : (w1.alloc (.cells #[.int .i64 n, .int .i64 t] 214)).cell? ⟨gh, 0, none⟩ = some sv := blk_cell (blk_alloc HH.out.blk _) 0
  clear hW2 W2
  go_wp2
  go_region_law (refine step_append_lies _ rfl (.tmp 9) (.tmp 11) 216 rfl B 214 i0 _ 2 16 Try.underlying216 hi hz0 hz1 hz2 rfl (by decide) sv l.length (visCs l) (by go_simp) hownA.out ⟨w1.heap.size, 0, none⟩ 1 1 [.int .i64 n, .int .i64 t] (by go_simp) rfl hnewsA.out (by simp [Value.oneCell']) (by decide) (by have := HL.out; unfold maxLen; omega) (by have := HL.out; omega) hBA.out _ rfl ?_; intro g cap w2 hown2 hg2 hor hlt2; have hE := append_post HK1.out HH.out hk2.out hown2 hg2 hor hlt2; clear hown2 hg2 hor hlt2; have c20 := hE.1; have f20 := hE.2.1; have HE := Aside0.mk hE.2.2; clear hE)
  all_goals
    have HP := Aside0.mk (put_store HE.out)
    clear HE c20 f20 cA hownA hnewsA hk2 hBA c0 f0 cx0 cx1 HX HH HK1 HW
    generalize (w2.setCell ⟨gh, 0, none⟩ (.slice (some ⟨g, 0, none⟩) (l.length + 1) cap)) = w3 at HP ⊢
    obtain ⟨N, hN⟩ : ∃ N, N = l.length + 1 := ⟨_, rfl⟩
    rw [← hN] at HP ⊢
    have c30 := HP.out.cell0
    have hN1 : 1 ≤ N := by omega
    have hN2 : N ≤ 200000 := by have := HL.out; omega
    have HN := Aside0.mk hN
    clear hN
    go_wp2
    clear c30
    go_loopw [4] (fun v wr => ∃ (k : Nat) (lk : List Vis), v = .int .i64 k ∧ k < N ∧ Aside0 (PutInv w gh B sv (l ++ [(n, t)]) g cap N k lk wr)) (fun v _ => (intOf v).toNat)
    case atStart => exact ⟨N - 1, l ++ [(n, t)], by go_num, by omega, by rw [show N - 1 = l.length by have := HN.out; omega]; exact HP⟩
    case round =>
      obtain ⟨k, lk, rfl, hk, HI⟩ := hrel
      clear HP
      by_cases hk0 : 0 < k
      · have hd : decide ((0 : Int) < (k : Int)) = true := by simp; omega
        obtain ⟨j, hj⟩ : ∃ j, j = (k - 1) / 2 := ⟨_, rfl⟩
        have hjk : j < k := by omega
        have hjN : j < N := by omega
        have HJ := Aside0.mk hj
        have hw1 : IntKind.i64.wrap ((k : Int) - 1) = (k : Int) - 1 := by rw [i64_w]; unfold wrap64; omega
        have hw2 : IntKind.i64.wrap (((k : Int) - 1).tdiv 2) = (j : Int) := by rw [i64_w, Int.tdiv_eq_ediv_of_nonneg (by omega)]; unfold wrap64; omega
        have C : ∀ W, Below wr.heap.size wr W → (W.cell? ⟨gh, 0, none⟩ = some (.slice (some ⟨g, 0, none⟩) N cap) ∧ W.cell? ⟨gh, 1, none⟩ = some (.func (.func 119) #[] #[])) ∧ (W.cell? ⟨g, k * 2, none⟩ = some (.int .i64 (vat lk k).1) ∧ W.cell? ⟨g, k * 2 + 1, none⟩ = some (.int .i64 (vat lk k).2)) ∧ (W.cell? ⟨g, j * 2, none⟩ = some (.int .i64 (vat lk j).1) ∧ W.cell? ⟨g, j * 2 + 1, none⟩ = some (.int .i64 (vat lk j).2)) := fun W h => by
          have hI := HI.out.keep h
          exact ⟨⟨hI.cell0, hI.cell1⟩, ⟨hI.at0 k (by rw [hI.len]; exact hk), hI.at1 k (by rw [hI.len]; exact hk)⟩, hI.at0 j (by rw [hI.len]; exact hjN), hI.at1 j (by rw [hI.len]; exact hjN)⟩
        have C1 := fun W h => (C W h).1.1
        have C2 := fun W h => (C W h).1.2
        have C3 := fun W h => (C W h).2.1.1
        have C4 := fun W h => (C W h).2.1.2
        have C5 := fun W h => (C W h).2.2.1
        have C6 := fun W h => (C W h).2.2.2
        clear C hj
        go_wp2
        go_region_held3 (fun W => Below wr.heap.size wr W) (first | exact below_drew1 (Below.refl _ _) | exact below_step (by assumption) (by assumption)) (first | (go_at_call 119; refine (less_calls _ _ _ _ _).mono ?_; rintro e w' ⟨rfl, hbh⟩))
        rename_i hh
        have HW := Aside0.mk hh
        clear hh hbh C1 C2 C3 C4 C5 C6
        by_cases ht : (vat lk k).2 < (vat lk j).2
        · have hIs := HI.out.keep HW.out
          obtain ⟨c0, c3, c4, c5, c6, f3, f4, f5, f6⟩ := swap_facts hIs hk hjN
          have HS := Aside0.mk hIs
          clear hIs
          go_wp2
          go_region
          have HN2 := Aside0.mk (put_swap HS.out hk hk0 HJ.out ht)
          clear HS c0 c3 c4 c5 c6 f3 f4 f5 f6
          generalize (World.drew _) = w4 at HN2 ⊢
          go_wp2
          go_roundw
          case rel => exact ⟨j, _, by go_num, hjN, HN2⟩
          case measure => simp [intOf]; omega
        · have HQ := Aside0.mk (put_done (HI.out.keep HW.out) (.inr ht) HJ.out hB)
          go_wp2
          go_end0
          refine ⟨rfl, ?_⟩
          simpa [HN.out] using HQ.out
      · obtain rfl : k = 0 := by omega
        have HQ := Aside0.mk (fun q => put_done (j := 0) (HI.out.keep (pw_below_drewN (Below.refl _ _) q)) (.inl rfl) rfl hB)
        have hd : decide ((0 : Int) < ((0 : Nat) : Int)) = false := by simp
        go_wp2
        go_quiet (fail)
        go_wp2
        go_end0
        refine ⟨rfl, ?_⟩
        simpa [HN.out] using HQ.out _
end Go.Proofs.Ytgmglpnoppcnkaa
end
section
namespace Go.Proofs.Ytgmglpnoppcnkaa
set_option linter.unusedVariables false
/-- No element is before its parent. -/
def HeapOk (l : List Vis) : Prop := ∀ i, 0 < i → i < l.length → (vat l ((i - 1) / 2)).2 ≤ (vat l i).2
theorem HeapOk.min {l : List Vis} (h : HeapOk l) : ∀ i, i < l.length → (vat l 0).2 ≤ (vat l i).2 := by
  intro i
  induction i using Nat.strongRecOn with
  | ind i ih =>
    intro hi
    rcases Nat.eq_zero_or_pos i with rfl | h0
    · exact Int.le_refl _
    · exact Int.le_trans (ih ((i - 1) / 2) (by omega) (by omega)) (h i h0 hi)
theorem siftUp_perm (l : List Vis) (k : Nat) (hk : k < l.length) : (siftUp l k).Perm l := by
  induction k using Nat.strongRecOn generalizing l with
  | ind k ih =>
    rw [siftUp]
    split
    · rename_i h
      exact (ih ((k - 1) / 2) (by omega) _ (by rw [swapL_length]; omega)).trans (swapL_perm l k ((k - 1) / 2) hk (by omega))
    · exact List.Perm.refl _
theorem siftUp_ok (l : List Vis) (k : Nat) (hk : k < l.length) (h1 : ∀ i, 0 < i → i < l.length → i ≠ k → (vat l ((i - 1) / 2)).2 ≤ (vat l i).2)
    (h2 : ∀ c, 0 < c → c < l.length → (c - 1) / 2 = k → 0 < k → (vat l ((k - 1) / 2)).2 ≤ (vat l c).2) : HeapOk (siftUp l k) := by
  induction k using Nat.strongRecOn generalizing l with
  | ind k ih =>
    rw [siftUp]
    split
    · rename_i h
      obtain ⟨h0, ht⟩ := h
      obtain ⟨p, hp⟩ : ∃ p, p = (k - 1) / 2 := ⟨_, rfl⟩
      rw [← hp] at ht ⊢
      have hpk : p < k := by omega
      have hpl : p < l.length := by omega
      refine ih p hpk _ (by rw [swapL_length]; omega) ?_ ?_
      · intro i hi0 hil hip
        rw [swapL_length] at hil
        rw [vat_swap l k p _ hk hpl, vat_swap l k p _ hk hpl]
        by_cases hik : i = k
        · subst hik
          rw [if_neg (by omega), if_pos hp.symm, if_pos rfl]
          omega
        · rw [if_neg hik, if_neg hip]
          by_cases hpar : (i - 1) / 2 = k
          · rw [if_pos hpar]
            have := h2 i hi0 hil hpar h0
            rw [← hp] at this
            exact this
          · rw [if_neg hpar]
            by_cases hpp : (i - 1) / 2 = p
            · rw [if_pos hpp]
              have := h1 i hi0 hil hik
              rw [hpp] at this
              omega
            · rw [if_neg hpp]
              exact h1 i hi0 hil hik
      · intro c hc0 hcl hcp hp0
        rw [swapL_length] at hcl
        rw [vat_swap l k p _ hk hpl, vat_swap l k p _ hk hpl]
        have hq : (p - 1) / 2 < p := by omega
        rw [if_neg (by omega), if_neg (by omega)]
        have hgp := h1 p hp0 hpl (by omega)
        by_cases hck : c = k
        · rw [if_pos hck]; exact hgp
        · rw [if_neg hck, if_neg (by omega)]
          have := h1 c hc0 hcl hck
          rw [hcp] at this
          omega
    · rename_i h
      intro i hi0 hil
      by_cases hik : i = k
      · subst hik
        by_cases ht : (vat l i).2 < (vat l ((i - 1) / 2)).2
        · exact absurd ⟨hi0, ht⟩ h
        · omega
      · exact h1 i hi0 hil hik
theorem vat_append_lt (l : List Vis) (x : Vis) (i : Nat) (h : i < l.length) : vat (l ++ [x]) i = vat l i := by
  simp [vat, List.getElem?_append_left h]
/-- put keeps the heap. -/
theorem put_ok (l : List Vis) (x : Vis) (h : HeapOk l) : HeapOk (siftUp (l ++ [x]) l.length) := by
  refine siftUp_ok _ _ (by simp) ?_ ?_
  · intro i h0 hi hne
    have : i < l.length := by simp at hi; omega
    rw [vat_append_lt l x i this, vat_append_lt l x _ (by omega)]
    exact h i h0 this
  · intro c h0 hc hp _
    simp at hc
    omega
theorem put_perm (l : List Vis) (x : Vis) : (siftUp (l ++ [x]) l.length).Perm (x :: l) :=
  (siftUp_perm _ _ (by simp)).trans (List.perm_append_comm (l₁ := l) (l₂ := [x]))
theorem leastChild_le (l : List Vis) (n i : Nat) : (vat l (leastChild l n i)).2 ≤ (vat l i).2 ∧ (2 * i + 1 < n → (vat l (leastChild l n i)).2 ≤ (vat l (2 * i + 1)).2) ∧ (2 * i + 2 < n → (vat l (leastChild l n i)).2 ≤ (vat l (2 * i + 2)).2) := by
  unfold leastChild
  by_cases h1 : 2 * i + 1 < n ∧ (vat l (2 * i + 1)).2 < (vat l i).2
  · simp only [if_pos h1]
    by_cases h2 : 2 * i + 2 < n ∧ (vat l (2 * i + 2)).2 < (vat l (2 * i + 1)).2
    · simp only [if_pos h2]
      exact ⟨by omega, fun _ => by omega, fun _ => Int.le_refl _⟩
    · simp only [if_neg h2]
      refine ⟨by omega, fun _ => Int.le_refl _, fun h => ?_⟩
      by_cases h3 : (vat l (2 * i + 2)).2 < (vat l (2 * i + 1)).2
      · exact absurd ⟨h, h3⟩ h2
      · omega
  · simp only [if_neg h1]
    have h1' : 2 * i + 1 < n → (vat l i).2 ≤ (vat l (2 * i + 1)).2 := fun h => by
      by_cases h3 : (vat l (2 * i + 1)).2 < (vat l i).2
      · exact absurd ⟨h, h3⟩ h1
      · omega
    by_cases h2 : 2 * i + 2 < n ∧ (vat l (2 * i + 2)).2 < (vat l i).2
    · simp only [if_pos h2]
      exact ⟨by omega, fun h => by have := h1' h; omega, fun _ => Int.le_refl _⟩
    · simp only [if_neg h2]
      refine ⟨Int.le_refl _, h1', fun h => ?_⟩
      by_cases h3 : (vat l (2 * i + 2)).2 < (vat l i).2
      · exact absurd ⟨h, h3⟩ h2
      · omega
theorem siftDown_all (l : List Vis) (n i : Nat) (hn : l.length = n) (hi : i < n ∨ i = 0 ∧ n = 0) (h1 : ∀ c, 0 < c → c < n → (c - 1) / 2 ≠ i → (vat l ((c - 1) / 2)).2 ≤ (vat l c).2)
    (h2 : ∀ c, 0 < c → c < n → (c - 1) / 2 = i → 0 < i → (vat l ((i - 1) / 2)).2 ≤ (vat l c).2) : HeapOk (siftDown l n i) ∧ (siftDown l n i).Perm l := by
  induction hk : n - i using Nat.strongRecOn generalizing l i with
  | ind k ih =>
    obtain ⟨hl1, hl2, hl3⟩ := leastChild_le l n i
    rw [siftDown]
    split
    · rename_i he
      rw [he] at hl1 hl2 hl3
      refine ⟨fun c hc0 hcl => ?_, List.Perm.refl _⟩
      rw [hn] at hcl
      by_cases hp : (c - 1) / 2 = i
      · rw [hp]
        rcases (show c = 2 * i + 1 ∨ c = 2 * i + 2 by omega) with rfl | rfl
        · exact hl2 hcl
        · exact hl3 hcl
      · exact h1 c hc0 hcl hp
    · rename_i hne
      obtain ⟨m, hm⟩ : ∃ m, m = leastChild l n i := ⟨_, rfl⟩
      rw [← hm] at hne hl1 hl2 hl3 ⊢
      have hcs := leastChild_cases l n i
      rw [← hm] at hcs
      have hmn : m < n := by omega
      have him : i < m := by omega
      have hpm : (m - 1) / 2 = i := by omega
      have hil : i < l.length := by omega
      have hml : m < l.length := by omega
      have := ih (n - m) (by omega) (swapL l i m) m (by rw [swapL_length]; exact hn) (.inl hmn) ?_ ?_ rfl
      · exact ⟨this.1, this.2.trans (swapL_perm l i m hil hml)⟩
      · intro c hc0 hcn hcp
        rw [vat_swap l i m _ hil hml, vat_swap l i m _ hil hml]
        by_cases hci : c = i
        · subst hci
          rw [if_pos rfl, if_neg (by omega), if_neg (by omega)]
          exact h2 m (by omega) hmn hpm hc0
        · rw [if_neg hci, if_neg hcp]
          by_cases hcm : c = m
          · subst hcm
            rw [if_pos rfl, if_pos hpm]; exact hl1
          · rw [if_neg hcm]
            by_cases hpi : (c - 1) / 2 = i
            · rw [if_pos hpi]
              rcases (show c = 2 * i + 1 ∨ c = 2 * i + 2 by omega) with rfl | rfl
              · exact hl2 hcn
              · exact hl3 hcn
            · rw [if_neg hpi]
              exact h1 c hc0 hcn hpi
      · intro c hc0 hcn hcp _
        rw [vat_swap l i m _ hil hml, vat_swap l i m _ hil hml, hpm, if_pos rfl, if_neg (by omega), if_neg (by omega)]
        have := h1 c hc0 hcn (by omega)
        rw [hcp] at this
        exact this
/-- What take leaves of a list. -/
def takeRest (l : List Vis) : List Vis := siftDown ((l.set 0 (vat l (l.length - 1))).take (l.length - 1)) (l.length - 1) 0
/-- take keeps the heap; what it returns and what it leaves are what there was. -/
theorem take_all (l : List Vis) (h : HeapOk l) (h0 : 0 < l.length) : HeapOk (takeRest l) ∧ (vat l 0 :: takeRest l).Perm l ∧ (takeRest l).length + 1 = l.length := by
  obtain ⟨n, hn⟩ : ∃ n, l.length = n + 1 := ⟨l.length - 1, by omega⟩
  unfold takeRest
  rw [hn, Nat.add_sub_cancel]
  obtain ⟨m, hm⟩ : ∃ m, m = (l.set 0 (vat l n)).take n := ⟨_, rfl⟩
  rw [← hm]
  have hml : m.length = n := by rw [hm]; simp; omega
  have hat : ∀ i, 0 < i → i < n → vat m i = vat l i := fun i hi0 hin => by
    rw [hm]
    unfold vat
    simp only [List.getD_eq_getElem?_getD, List.getElem?_take, if_pos hin, List.getElem?_set]
    rw [if_neg (by omega)]
  have hsd := siftDown_all m n 0 hml (by omega) (fun c hc0 hcn hp => by
    rw [hat _ (by omega) (by omega), hat c hc0 hcn]
    exact h c hc0 (by omega)) (fun c _ _ _ hh => absurd hh (by omega))
  refine ⟨hsd.1, ?_, by have := hsd.2.length_eq; omega⟩
  refine (hsd.2.cons _).trans ?_
  rw [hm]
  cases l with
  | nil => simp at h0
  | cons a r =>
    simp only [List.length_cons, Nat.add_right_cancel_iff] at hn
    rcases Nat.eq_zero_or_pos n with rfl | hn0
    · have : r = [] := List.eq_nil_of_length_eq_zero hn
      subst this
      simp [vat]
    · obtain ⟨k, rfl⟩ : ∃ k, n = k + 1 := ⟨n - 1, by omega⟩
      have hr : r = r.take k ++ [vat (a :: r) (k + 1)] := by
        have e : vat (a :: r) (k + 1) = r[k]'(by omega) := by simp [vat, List.getElem?_eq_getElem (show k < r.length by omega)]
        rw [e, ← List.take_succ_eq_append_getElem (by omega), List.take_of_length_le (by omega)]
      simp only [List.set_cons_zero, List.take_succ_cons]
      have e0 : vat (a :: r) 0 = a := by simp [vat]
      rw [e0]
      generalize hz : vat (a :: r) (k + 1) = z at hr
      refine List.Perm.cons a ?_
      conv => rhs; rw [hr]
      exact (List.perm_append_comm (l₁ := [z]) (l₂ := r.take k))
end Go.Proofs.Ytgmglpnoppcnkaa
end
section
namespace Go.Proofs.Ytgmglpnoppcnkaa
open Go.RowKit Go.Proofs.YtgmglpnoppcnkaaW.PrintWords Go.Proofs.YtgmglpnoppcnkaaW.PrintLast Go.Proofs.YtgmglpnoppcnkaaW.PrintMore
set_option linter.unusedVariables false
set_option linter.unusedSimpArgs false
set_option maxRecDepth 100000
def TakePost (w : World) (gh B : Nat) (sv : Value) (l' : List Vis) (w' : World) : Prop :=
  ∃ sv', HeapAt w' gh B sv' l' ∧ Kp w w' (fun i => i = gh ∨ some i = sv.ownBlock) ∧ sv'.ownBlock = sv.ownBlock
/-- In take: the heap's row (of N elements now), the result's block, x's block. -/
structure TakeInv (w : World) (gh B g cap N br : Nat) (rc : Array Value) (bx : Nat) (x : Vis) (lk : List Vis) (wr : World) : Prop where
  blk : wr.heap[gh]? = some (.cells #[.slice (some ⟨g, 0, none⟩) N cap, .func (.func 119) #[] #[]] 218 (0, 0))
  own : wr.ownsRow B 214 2 (.slice (some ⟨g, 0, none⟩) N cap) N (visCs lk)
  len : lk.length = N
  kp : Kp w wr (fun i => i = gh ∨ i = g)
  rb : wr.heap[br]? = some (.cells rc 214 (0, 0))
  xb : wr.heap[bx]? = some (.cells #[.int .i64 x.1, .int .i64 x.2] 214 (0, 0))
  gw : g < w.heap.size
  brw : w.heap.size ≤ br
  bxw : w.heap.size ≤ bx
  ne : br ≠ bx
section
variable {w : World} {gh B g cap N br : Nat} {rc : Array Value} {bx : Nat} {x : Vis} {lk : List Vis} {wr : World}
theorem TakeInv.cell0 (h : TakeInv w gh B g cap N br rc bx x lk wr) : wr.cell? ⟨gh, 0, none⟩ = some (.slice (some ⟨g, 0, none⟩) N cap) := blk_cell h.blk 0
theorem TakeInv.free0 (h : TakeInv w gh B g cap N br rc bx x lk wr) : wr.frozen? ⟨gh, 0, none⟩ = false := blk_frozen h.blk 0
theorem TakeInv.cell1 (h : TakeInv w gh B g cap N br rc bx x lk wr) : wr.cell? ⟨gh, 1, none⟩ = some (.func (.func 119) #[] #[]) := blk_cell h.blk 1
theorem TakeInv.at0 (h : TakeInv w gh B g cap N br rc bx x lk wr) (i : Nat) (hi : i < N) : wr.cell? ⟨g, i * 2, none⟩ = some (.int .i64 (vat lk i).1) := by
  rw [h.own.cellAt (i * 2) (by omega)]; exact visCs_get0 lk i (by rw [h.len]; exact hi)
theorem TakeInv.at1 (h : TakeInv w gh B g cap N br rc bx x lk wr) (i : Nat) (hi : i < N) : wr.cell? ⟨g, i * 2 + 1, none⟩ = some (.int .i64 (vat lk i).2) := by
  rw [h.own.cellAt (i * 2 + 1) (by omega)]; exact visCs_get1 lk i (by rw [h.len]; exact hi)
theorem TakeInv.free (h : TakeInv w gh B g cap N br rc bx x lk wr) (i : Nat) : wr.frozen? ⟨g, i, none⟩ = false := h.own.frozenAt i
theorem TakeInv.keep {W : World} (h : TakeInv w gh B g cap N br rc bx x lk wr) (hb : Below wr.heap.size wr W) : TakeInv w gh B g cap N br rc bx x lk W :=
  ⟨blk_below h.blk hb, own_move h.own (fun i hi => hb.block i (own_lt h.own i hi)), h.len, h.kp.trans (Kp.of_below hb (fun _ => False)) (fun _ h => h) (fun _ _ h => h.elim), blk_below h.rb hb, blk_below h.xb hb, h.gw, h.brw, h.bxw, h.ne⟩
/-- One element is written. -/
theorem TakeInv.put (h : TakeInv w gh B g cap N br rc bx x lk wr) (i : Nat) (v : Vis) : TakeInv w gh B g cap N br rc bx x (lk.set i v) ((wr.setCell ⟨g, i * 2, none⟩ (.int .i64 v.1)).setCell ⟨g, i * 2 + 1, none⟩ (.int .i64 v.2)) := by
  have hne : gh ≠ g := fun e => own_ne h.blk h.own (by decide) (by simp [Value.ownBlock, e])
  have h1 : br ≠ g := fun e => by have := h.gw; have := h.brw; omega
  have h2 : bx ≠ g := fun e => by have := h.gw; have := h.bxw; omega
  have o1 := h.own.stored (i * 2) (.int .i64 v.1)
  have o2 := o1.1.stored (i * 2 + 1) (.int .i64 v.2)
  refine ⟨blk_far (blk_far h.blk hne _) hne _, ?_, by simpa using h.len, ?_, blk_far (blk_far h.rb h1 _) h1 _, blk_far (blk_far h.xb h2 _) h2 _, h.gw, h.brw, h.bxw, h.ne⟩
  · have := o2.1
    rw [visCs_set] at this
    exact this
  · exact (h.kp.trans (Kp.setCell _ _ _ _) (U := fun i => i = gh ∨ i = g) (fun _ h => h) (fun _ _ h => .inr h)).trans (Kp.setCell _ _ _ _) (fun _ h => h) (fun _ _ h => .inr h)
/-- The slice is cut. -/
theorem TakeInv.cut (h : TakeInv w gh B g cap N br rc bx x lk wr) (M : Nat) (hM : M ≤ N) : TakeInv w gh B g cap M br rc bx x (lk.take M) (wr.setCell ⟨gh, 0, none⟩ (.slice (some ⟨g, 0, none⟩) M cap)) := by
  have hne : g ≠ gh := fun e => own_ne h.blk h.own (by decide) (by simp [Value.ownBlock, e])
  have h1 : br ≠ gh := fun e => by
    have a := h.rb; have b := h.blk; rw [e, b] at a; simp at a
  have h2 : bx ≠ gh := fun e => by
    have a := h.xb; have b := h.blk; rw [e, b] at a; simp at a
  refine ⟨by simpa using blk_set h.blk 0 (.slice (some ⟨g, 0, none⟩) M cap), ?_, by simp [h.len]; omega, h.kp.trans (Kp.setCell _ _ _ _) (fun _ h => h) (fun _ _ h => .inl h), blk_far h.rb h1 _, blk_far h.xb h2 _, h.gw, h.brw, h.bxw, h.ne⟩
  obtain ⟨e1, e2⟩ := h.own
  refine ⟨by rw [visCs_length]; simp [h.len]; omega, .inr ?_⟩
  rcases e2 with ⟨e3, _⟩ | ⟨g', cap', cur, hv, hb, hg, hc, hm, hs, ht⟩
  · simp at e3
  · simp only [Value.slice.injEq, Option.some.injEq, Addr.mk.injEq, and_true, true_and] at hv
    obtain ⟨rfl, rfl⟩ := hv
    refine ⟨g, cap, cur, rfl, hb, by rw [Below.heap_setCell _ _ _ _ hne]; exact hg, by omega, hm, hs, ?_⟩
    rw [← visCs_take, ← ht, List.take_take]
    congr 1
    omega
end
/-- least after d rounds of take's inner loop. -/
def lcUp (l : List Vis) (n i : Nat) : Nat → Nat
  | 0 => i
  | d + 1 => if 2 * i + 1 + d < n ∧ (vat l (2 * i + 1 + d)).2 < (vat l (lcUp l n i d)).2 then 2 * i + 1 + d else lcUp l n i d
theorem lcUp_lt (l : List Vis) (n i d : Nat) : lcUp l n i d = i ∨ lcUp l n i d < n := by
  induction d with
  | zero => exact .inl rfl
  | succ d ih =>
    rw [lcUp]
    split
    · rename_i h; exact .inr h.1
    · exact ih
theorem lcUp_two (l : List Vis) (n i : Nat) : lcUp l n i 2 = leastChild l n i := rfl
theorem lcUp_same (l : List Vis) (n i d : Nat) (h : n ≤ 2 * i + 1 + d) : lcUp l n i (d + 1) = lcUp l n i d := by
  rw [lcUp]; exact if_neg (fun h' => by have := h'.1; omega)
theorem lcUp_end (l : List Vis) (n i d : Nat) (hd : d ≤ 2) (h : d = 2 ∨ n ≤ 2 * i + 1 + d) : lcUp l n i d = leastChild l n i := by
  rw [← lcUp_two]
  rcases h with rfl | h
  · rfl
  · rcases (show d = 0 ∨ d = 1 ∨ d = 2 by omega) with rfl | rfl | rfl
    · rw [lcUp_same l n i 1 (by omega), lcUp_same l n i 0 (by omega)]
    · rw [lcUp_same l n i 1 (by omega)]
    · rfl
theorem take_done {w : World} {gh B g cap n br : Nat} {rc : Array Value} {bx : Nat} {x : Vis} {lk l : List Vis} {wr : World} (h : TakeInv w gh B g cap n br rc bx x lk wr) (hl : l.length = n + 1)
    (he : lk = siftDown ((l.set 0 (vat l n)).take n) n 0) (u v : Value) :
    TakePost w gh B (.slice (some ⟨g, 0, none⟩) (n + 1) cap) (takeRest l) ((wr.setCell ⟨br, 0, none⟩ u).setCell ⟨br, 1, none⟩ v) := by
  have e : takeRest l = lk := by
    unfold takeRest
    rw [hl, Nat.add_sub_cancel]
    exact he.symm
  rw [e]
  have h1 : gh ≠ br := fun e => by
    have a := h.rb; have b := h.blk; rw [← e, b] at a; simp at a
  have h2 : g ≠ br := fun e => by have := h.gw; have := h.brw; omega
  refine ⟨.slice (some ⟨g, 0, none⟩) n cap, ⟨blk_far (blk_far h.blk h1 _) h1 _, ?_⟩, ?_, rfl⟩
  · rw [h.len]
    refine own_move h.own (fun k hk => ?_)
    have : g = k := by simpa [Value.ownBlock] using hk
    subst this
    rw [Below.heap_setCell _ _ _ _ h2, Below.heap_setCell _ _ _ _ h2]
  · have hb := h.brw
    exact ((h.kp.trans (Kp.setCell _ _ _ _) (U := fun i => i = gh ∨ some i = Value.ownBlock (.slice (some ⟨g, 0, none⟩) (n + 1) cap)) (fun _ h => h.imp id (fun e => by simp [Value.ownBlock, e])) (fun _ hi h => by omega)).trans (Kp.setCell _ _ _ _) (fun _ h => h) (fun _ hi h => by omega))
set_option maxHeartbeats 4000000 in
theorem take_calls (gh B g n cap : Nat) (l : List Vis) (w : World) (hn : l.length = n + 1) (hlen : n ≤ 200000) (hB : B ≤ w.heap.size) (hh : HeapAt w gh B (.slice (some ⟨g, 0, none⟩) (n + 1) cap) l) :
    Calls Try.prog 121 #[.pointer (some ⟨gh, 0, none⟩)] w fun e w' => e = .returned (.agg #[.int .i64 (vat l 0).1, .int .i64 (vat l 0).2]) ∧ TakePost w gh B (.slice (some ⟨g, 0, none⟩) (n + 1) cap) (takeRest l) w' := by
  have hown := hh.own
  rw [hn] at hown
  have hgw : g < w.heap.size := own_lt hown g (by simp [Value.ownBlock])
  go_enter Try.func121, Try.ntmps121
  go_wp2_with ((with_reducible refine gate_dst (N := 2) rfl ?_); refine hold ?_)
  refine box_event rfl (N := 2) rfl (cs := #[.int .i64 0, .int .i64 0]) (t := 214) (by go_simp) ?_
  intro br hbr w1 hb1 hB1
  have HT : Aside0 (TakeInv w gh B g cap (n + 1) br #[.int .i64 0, .int .i64 0] w1.heap.size (vat l 0) l (w1.alloc (.cells #[.int .i64 (vat l 0).1, .int .i64 (vat l 0).2] 214)).drew) := by
    have hk : Below w.heap.size w (w1.alloc (.cells #[.int .i64 (vat l 0).1, .int .i64 (vat l 0).2] 214)).drew := below_drew1 (below_alloc hB1 _)
    have hsz := hB1.size
    exact ⟨⟨blk_below hh.blk hk, own_move hown (fun i hi => hk.block i (own_lt hown i hi)), hn, Kp.of_below hk _, blk_drew (blk_alloc hb1 _), blk_drew (blk_new w1 _), hgw, by omega, by omega, fun e => by have := blk_lt hb1; omega⟩⟩
  have hh1 := hh.kp (Kp.of_below hB1 (fun _ => False)) (by simp) (by simp)
  have ho1 := own_move hown (fun i hi => hB1.block i (own_lt hown i hi))
  have C0 : ∀ W, Below w1.heap.size w1 W → W.cell? ⟨gh, 0, none⟩ = some (.slice (some ⟨g, 0, none⟩) (n + 1) cap) := fun W h => blk_cell (blk_below hh1.blk h) 0
  have C1 : ∀ W, Below w1.heap.size w1 W → W.cell? ⟨g, 0, none⟩ = some (.int .i64 (vat l 0).1) := fun W h => by
    rw [(own_move ho1 (fun i hi => h.block i (own_lt ho1 i hi))).cellAt 0 (by omega)]; exact visCs_get0 l 0 (by omega)
  have C2 : ∀ W, Below w1.heap.size w1 W → W.cell? ⟨g, 1, none⟩ = some (.int .i64 (vat l 0).2) := fun W h => by
    rw [(own_move ho1 (fun i hi => h.block i (own_lt ho1 i hi))).cellAt 1 (by omega)]; exact visCs_get1 l 0 (by omega)
  have hwn : IntKind.i64.wrap (n : Int) = (n : Int) := by rw [i64_w]; unfold wrap64; omega
  have HO := Aside0.mk (And.intro hh hh1)
  have HN := Aside0.mk hn
  clear hb1 hB1 hh1 ho1 hh hown hgw hbr hn
  go_wp2
  go_frame
  go_region_held3 (fun W => Below w1.heap.size w1 W) (first | exact below_drew1 (Below.refl _ _) | exact below_drew1 (below_alloc (Below.refl _ _) _) | exact below_alloc (below_drew1 (Below.refl _ _)) _) (fail)
  rename_i hH
  clear hH C0 C1 C2 HO
  generalize (World.drew _) = w2 at HT ⊢
  generalize w1.heap.size = bx at HT ⊢
  have c0 := HT.out.cell0
  have c1 : w2.cell? ⟨g, 0, none⟩ = some (.int .i64 (vat l 0).1) := HT.out.at0 0 (by omega)
  have c2 : w2.cell? ⟨g, 1, none⟩ = some (.int .i64 (vat l 0).2) := HT.out.at1 0 (by omega)
  have f1 := HT.out.free 0
  have f2 := HT.out.free 1
  have c3 := HT.out.at0 n (by omega)
  have c4 := HT.out.at1 n (by omega)
  have hcap : n + 1 ≤ cap := by
    rcases HT.out.own.2 with ⟨e3, _⟩ | ⟨g', cap', cur, hv, hb, hg, hc, hm, hs, ht⟩
    · simp at e3
    · simp only [Value.slice.injEq] at hv
      omega
  go_wp2
  go_region
  have HT2 := Aside0.mk ((HT.out.put 0 (vat l n)).keep (below_drew1 (Below.refl _ _)))
  clear c0 c1 c2 c3 c4 f1 f2 HT
  generalize (World.drew _) = w3 at HT2 ⊢
  have c0 := HT2.out.cell0
  have f0 := HT2.out.free0
  go_wp2
  have HT3 := Aside0.mk (HT2.out.cut n (by omega))
  clear c0 f0 HT2
  generalize (World.setCell _ _ _) = w4 at HT3 ⊢
  obtain ⟨L0, hL0⟩ : ∃ L0, L0 = (l.set 0 (vat l n)).take n := ⟨_, rfl⟩
  rw [← hL0] at HT3
  have HL0 := Aside0.mk hL0
  clear hL0
  go_loopw [5] (fun v wr => ∃ (i : Nat) (lk : List Vis), v = .int .i64 i ∧ i ≤ n ∧ Aside0 (TakeInv w gh B g cap n br #[.int .i64 0, .int .i64 0] bx (vat l 0) lk wr) ∧ Aside0 (siftDown lk n i = siftDown L0 n 0)) (fun v _ => n - (intOf v).toNat)
  case atStart => exact ⟨0, L0, rfl, Nat.zero_le _, HT3, ⟨rfl⟩⟩
  case round =>
    obtain ⟨i, lk, rfl, hi, HI, HS⟩ := hrel
    clear HT3
    obtain ⟨wo, rfl⟩ : ∃ wo, wo = wr := ⟨_, rfl⟩
    go_wp2
    go_loopw [6, 7] (fun v6 v7 wi => ∃ (d m c : Nat), v6 = .int .i64 m ∧ v7 = .int .i64 c ∧ d ≤ 2 ∧ Aside0 (c = 2 * i + 1 + d) ∧ Aside0 (m = lcUp lk n i d) ∧ Aside0 (Below wo.heap.size wo wi)) (fun _ v7 _ => 2 * i + 3 - (intOf v7).toNat)
    case atStart => exact ⟨0, i, 2 * i + 1, rfl, by go_num, by omega, ⟨rfl⟩, ⟨rfl⟩, ⟨Below.refl _ _⟩⟩
    case round =>
      obtain ⟨d, m, c, rfl, rfl, hd, HC, HM, HW⟩ := hrel
      have hc1 : 2 * i + 1 ≤ c := by have := HC.out; omega
      have hc2 : c ≤ 2 * i + 3 := by have := HC.out; omega
      have hm : m = i ∨ m < n := by rw [HM.out]; exact lcUp_lt lk n i d
      have hI2 := HI.out.keep HW.out
      by_cases hgo : c ≤ 2 * i + 2 ∧ c < n
      · obtain ⟨hg1, hg2⟩ := hgo
        have hmn : m < n := by omega
        have hI3 := Aside0.mk hI2
        have C : ∀ W, Below wr.heap.size wr W → TakeInv w gh B g cap n br #[.int .i64 0, .int .i64 0] bx (vat l 0) lk W := fun W h => hI2.keep h
        have C0 := fun W h => (C W h).cell0
        have C1 := fun W h => (C W h).cell1
        have C2 := fun W h => (C W h).at0 c hg2
        have C3 := fun W h => (C W h).at1 c hg2
        have C4 := fun W h => (C W h).at0 m hmn
        have C5 := fun W h => (C W h).at1 m hmn
        have hdd : d + 1 ≤ 2 := by have := HC.out; omega
        clear C hI2 hm
        go_wp2
        go_region_held3 (fun W => Below wr.heap.size wr W) (first | exact below_drew1 (Below.refl _ _) | exact below_step (by assumption) (by assumption)) (first | (go_at_call 119; refine (less_calls _ _ _ _ _).mono ?_; rintro e w' ⟨rfl, hbh⟩))
        rename_i hh
        have HW2 := Aside0.mk (below_step HW.out hh)
        clear hh hbh C0 C1 C2 C3 C4 C5 hI3
        by_cases ht : (vat lk c).2 < (vat lk m).2
        · have hM2 : c = lcUp lk n i (d + 1) := by
            rw [lcUp, if_pos]
            · exact HC.out
            · rw [← HC.out, ← HM.out]; exact ⟨hg2, ht⟩
          have HM2 := Aside0.mk hM2
          clear hM2
          go_wp2
          go_roundw
          case rel => exact ⟨d + 1, c, c + 1, rfl, by go_num, hdd, ⟨by rw [HC.out]; omega⟩, HM2, HW2⟩
          case measure => simp [intOf]; omega
        · have hM2 : m = lcUp lk n i (d + 1) := by
            rw [lcUp, if_neg]
            · exact HM.out
            · rw [← HC.out, ← HM.out]; exact fun h => ht h.2
          have HM2 := Aside0.mk hM2
          clear hM2
          go_wp2
          go_roundw
          case rel => exact ⟨d + 1, m, c + 1, rfl, by go_num, hdd, ⟨by rw [HC.out]; omega⟩, HM2, HW2⟩
          case measure => simp [intOf]; omega
      · have hE : m = leastChild lk n i := by
          rw [HM.out]; exact lcUp_end lk n i d hd (by have := HC.out; omega)
        have HE := Aside0.mk hE
        have HI3 := Aside0.mk hI2
        have hx : (c ≤ 2 * i + 2 ∧ n ≤ c) ∨ 2 * i + 2 < c := by omega
        clear hE hI2 hgo
        by_cases hmi : m = i
        · have he : ((m : Int) == (i : Int)) = true := by simp [hmi]
          have HD := Aside0.mk (show siftDown lk n i = lk by rw [siftDown, dif_pos (by rw [← HE.out, hmi])])
          clear hmi hm
          have cr0 : wr.cell? ⟨br, 0, none⟩ = some (.int .i64 0) := blk_cell HI3.out.rb 0
          have cr1 : wr.cell? ⟨br, 1, none⟩ = some (.int .i64 0) := blk_cell HI3.out.rb 1
          have fr0 : wr.frozen? ⟨br, 0, none⟩ = false := blk_frozen HI3.out.rb 0
          have fr1 : wr.frozen? ⟨br, 1, none⟩ = false := blk_frozen HI3.out.rb 1
          have cx0 : wr.cell? ⟨bx, 0, none⟩ = some (.int .i64 (vat l 0).1) := blk_cell HI3.out.xb 0
          have cx1 : wr.cell? ⟨bx, 1, none⟩ = some (.int .i64 (vat l 0).2) := blk_cell HI3.out.xb 1
          rcases hx with ⟨hx1, hx2⟩ | hx1
          all_goals
            go_wp2
            refine bodyPost_ret (v := .agg #[.int .i64 (vat l 0).1, .int .i64 (vat l 0).2]) ?_ rfl ?_
            · simp [results, Try.results121, go_sem, cr0, cr1]
            · refine ⟨rfl, ?_⟩
              exact take_done HI3.out HN.out (HD.out.symm.trans (HS.out.trans (by rw [HL0.out]))) _ _
        · have he : ((m : Int) == (i : Int)) = false := by simp; omega
          have hmn : m < n := by omega
          have hin : i < n := by have := leastChild_cases lk n i; have := HE.out; omega
          have him : i < m := by have := leastChild_cases lk n i; have := HE.out; omega
          have HD := Aside0.mk (show siftDown lk n i = siftDown (swapL lk i m) n m by rw [siftDown, dif_neg (by rw [← HE.out]; exact hmi), ← HE.out])
          clear hmi hm
          have c0 := HI3.out.cell0
          have c1 := HI3.out.at0 i hin
          have c2 := HI3.out.at1 i hin
          have c3 := HI3.out.at0 m hmn
          have c4 := HI3.out.at1 m hmn
          have f1 := HI3.out.free (i * 2)
          have f2 := HI3.out.free (i * 2 + 1)
          have f3 := HI3.out.free (m * 2)
          have f4 := HI3.out.free (m * 2 + 1)
          have HS2 := Aside0.mk ((((HI3.out.put i (vat lk m)).put m (vat lk i)).keep (below_drew1 (Below.refl _ _))))
          have HS3 : Aside0 (siftDown ((lk.set i (vat lk m)).set m (vat lk i)) n m = siftDown L0 n 0) := ⟨HD.out.symm.trans HS.out⟩
          rcases hx with ⟨hx1, hx2⟩ | hx1
          all_goals
            go_wp2
            go_region
            go_wp2
            go_roundw
            case rel => exact ⟨m, _, rfl, by omega, HS2, HS3⟩
            case measure => simp [intOf]; omega
end Go.Proofs.Ytgmglpnoppcnkaa
end
section
namespace Go.Proofs.Ytgmglpnoppcnkaa
open Go.RowKit
set_option linter.unusedVariables false
abbrev Lk := PB.S88
def linkBad (nn uu : Int) (l : Lk) : Prop := ¬ (0 ≤ l.f0 ∧ l.f0 ≤ nn - 1) ∨ ¬ (0 ≤ l.f1 ∧ l.f1 ≤ nn - 1) ∨ ¬ (-1 ≤ l.f3 ∧ l.f3 ≤ uu - 1)
instance (nn uu : Int) (l : Lk) : Decidable (linkBad nn uu l) := by unfold linkBad; infer_instance
def timedP (lo hi : Int) : Prop := 0 ≤ lo ∧ lo ≤ hi ∧ hi ≤ 1000000000
instance (lo hi : Int) : Decidable (timedP lo hi) := by unfold timedP; infer_instance
/-- The error of a link. -/
def linkErr (nn uu : Int) (l : Lk) : Int := if linkBad nn uu l then 4 else if l.f0 = l.f1 then 2 else if timedP l.f2.f0 l.f2.f1 then 0 else 3
def linksErr (nn uu : Int) : List Lk → Int
  | [] => 0
  | l :: r => if linkErr nn uu l = 0 then linksErr nn uu r else linkErr nn uu l
/-- P8.1 -/
def checkE (nn uu : Int) (ls : List Lk) : Int :=
  if (1 ≤ nn ∧ nn ≤ 64) ∧ 0 ≤ uu ∧ uu ≤ 20 then (if 256 < ls.length then 9 else linksErr nn uu ls) else 3
/-- The error of a network and a start. -/
def startE (nn uu : Int) (ls : List Lk) (sn lo hi : Int) : Int :=
  if checkE nn uu ls = 0 then (if 0 ≤ sn ∧ sn ≤ nn - 1 then (if timedP lo hi then 0 else 3) else 4) else checkE nn uu ls
theorem within_eq (a lo hi : Int) : PB.spread_within.f a lo hi = some (decide (lo ≤ a ∧ a ≤ hi)) := by
  unfold PB.spread_within.f
  by_cases h : lo ≤ a
  · rw [if_pos h]; simp [h]
  · rw [if_neg h]; simp [h]
theorem timed_eq (lo hi : Int) : PB.spread_timed.f lo hi = some (decide (timedP lo hi)) := by
  unfold PB.spread_timed.f timedP
  by_cases h : 0 ≤ lo
  · rw [if_pos h]
    by_cases h2 : lo ≤ hi
    · rw [if_pos h2]; simp [h, h2]
    · rw [if_neg h2]; simp [h2]
  · rw [if_neg h]; simp [h]
theorem wrap_pred {n : Int} (h0 : 0 ≤ n) (h1 : n ≤ 1000000) : wrap64 (n - 1) = n - 1 := by unfold wrap64; omega
theorem wrap_succ {n : Int} (h0 : 0 ≤ n) (h1 : n ≤ 1000000) : wrap64 (n + 1) = n + 1 := by unfold wrap64; omega
theorem check_loop (nn uu : Int) (ls : List Lk) (h1 : 1 ≤ nn ∧ nn ≤ 64) (h2 : 0 ≤ uu ∧ uu ≤ 20) (hl : ls.length ≤ 256) :
    ∀ (d i : Nat), i + d = ls.length → ∃ k, PB.spread_Check.l0 k ls (ls.length : Int) (i : Int) nn uu ls = some (linksErr nn uu (ls.drop i)) := by
  intro d
  induction d with
  | zero =>
    intro i hi
    refine ⟨1, ?_⟩
    rw [PB.spread_Check.l0, if_neg (by omega), List.drop_of_length_le (by omega)]
    rfl
  | succ d ih =>
    intro i hi
    obtain ⟨k, hk⟩ := ih (i + 1) (by omega)
    have hlt : i < ls.length := by omega
    obtain ⟨l, hl'⟩ : ∃ l, l = ls[i] := ⟨_, rfl⟩
    have hrd : PB.rd_T88 ls (i : Int) = l := by simp [PB.rd_T88, List.getElem?_eq_getElem hlt, hl']
    have hdrop : ls.drop i = l :: ls.drop (i + 1) := by rw [hl']; exact List.drop_eq_getElem_cons hlt
    have hj : ∀ b : Bool, PB.spread_Check.j2 (k + 1) ls (ls.length : Int) (i : Int) b nn uu ls l.f0 l.f1 l.f2.f0 l.f2.f1 l.f3 l.f4 =
        if b = true then some 4 else if l.f0 = l.f1 then some 2 else if timedP l.f2.f0 l.f2.f1 then some (linksErr nn uu (ls.drop (i + 1))) else some 3 := by
      intro b
      rw [PB.spread_Check.j2, timed_eq]
      have e : wrap64 ((i : Int) + 1) = ((i + 1 : Nat) : Int) := by rw [wrap_succ (by omega) (by omega)]; omega
      rw [e, hk]
      simp only [Option.bind_some, decide_eq_true_eq]
    refine ⟨k + 2, ?_⟩
    rw [PB.spread_Check.l0, if_pos (by omega), if_pos (by omega), if_pos (by omega), hrd]
    simp only [within_eq, wrap_pred (show 0 ≤ nn by omega) (by omega), wrap_pred (show 0 ≤ uu by omega) (by omega), Option.bind_some, hj, decide_eq_true_eq]
    rw [hdrop, linksErr]
    by_cases c1 : 0 ≤ l.f0 ∧ l.f0 ≤ nn - 1
    · by_cases c2 : 0 ≤ l.f1 ∧ l.f1 ≤ nn - 1
      · by_cases c3 : -1 ≤ l.f3 ∧ l.f3 ≤ uu - 1
        · have c3' : (!decide (-1 ≤ l.f3 ∧ l.f3 ≤ uu - 1)) = false := by rw [decide_eq_true c3]; rfl
          have hb : ¬ linkBad nn uu l := by unfold linkBad; omega
          rw [if_pos c1, if_pos c2, c3', if_neg (by decide)]
          by_cases c4 : l.f0 = l.f1
          · have : linkErr nn uu l = 2 := by unfold linkErr; rw [if_neg hb, if_pos c4]
            rw [if_pos c4, this]; simp
          · rw [if_neg c4]
            by_cases c5 : timedP l.f2.f0 l.f2.f1
            · have : linkErr nn uu l = 0 := by unfold linkErr; rw [if_neg hb, if_neg c4, if_pos c5]
              rw [if_pos c5, this]; simp
            · have : linkErr nn uu l = 3 := by unfold linkErr; rw [if_neg hb, if_neg c4, if_neg c5]
              rw [if_neg c5, this]; simp
        · have c3' : (!decide (-1 ≤ l.f3 ∧ l.f3 ≤ uu - 1)) = true := by rw [decide_eq_false c3]; rfl
          have : linkErr nn uu l = 4 := by unfold linkErr; rw [if_pos (by unfold linkBad; exact .inr (.inr c3))]
          rw [if_pos c1, if_pos c2, c3', if_pos rfl, this]; simp
      · have : linkErr nn uu l = 4 := by unfold linkErr; rw [if_pos (by unfold linkBad; exact .inr (.inl c2))]
        rw [if_pos c1, if_neg c2, if_pos trivial, this]; simp
    · have : linkErr nn uu l = 4 := by unfold linkErr; rw [if_pos (by unfold linkBad; exact .inl c1)]
      rw [if_neg c1, if_pos trivial, this]; simp
/-- The printed Check answers checkE. -/
theorem check_eq (nn uu : Int) (ls : List Lk) : ∃ k, PB.spread_Check.f k nn uu ls = some (checkE nn uu ls) := by
  unfold PB.spread_Check.f checkE
  simp only [within_eq, Option.bind_some, decide_eq_true_eq]
  by_cases h1 : 1 ≤ nn ∧ nn ≤ 64
  · by_cases h2 : 0 ≤ uu ∧ uu ≤ 20
    · rw [if_pos ⟨h1, h2⟩]
      by_cases h3 : 256 < ls.length
      · refine ⟨1, ?_⟩
        rw [if_pos h1, decide_eq_true h2, PB.spread_Check.j0, if_neg (by decide), if_pos (by omega), if_pos h3]
      · obtain ⟨k, hk⟩ := check_loop nn uu ls h1 h2 (by omega) ls.length 0 (by omega)
        refine ⟨k + 1, ?_⟩
        rw [if_pos h1, decide_eq_true h2, PB.spread_Check.j0, if_neg (by decide), if_neg (by omega), if_neg h3]
        simpa using hk
    · refine ⟨1, ?_⟩
      rw [if_pos h1, decide_eq_false h2, PB.spread_Check.j0, if_pos (show (!false) = true from rfl), if_neg (fun h => h2 h.2)]
  · refine ⟨1, ?_⟩
    rw [if_neg h1, PB.spread_Check.j0, if_pos (show true = true from rfl), if_neg (fun h => h1 h.1)]
/-- What a network without an error is. -/
structure NetOk (nn uu : Int) (ls : List Lk) : Prop where
  n1 : 1 ≤ nn
  n2 : nn ≤ 64
  u1 : 0 ≤ uu
  u2 : uu ≤ 20
  len : ls.length ≤ 256
  links : ∀ l ∈ ls, (0 ≤ l.f0 ∧ l.f0 < nn) ∧ (0 ≤ l.f1 ∧ l.f1 < nn) ∧ (-1 ≤ l.f3 ∧ l.f3 < uu) ∧ l.f0 ≠ l.f1 ∧ timedP l.f2.f0 l.f2.f1
theorem linksErr_ok (nn uu : Int) : ∀ ls : List Lk, linksErr nn uu ls = 0 → ∀ l ∈ ls, (0 ≤ l.f0 ∧ l.f0 < nn) ∧ (0 ≤ l.f1 ∧ l.f1 < nn) ∧ (-1 ≤ l.f3 ∧ l.f3 < uu) ∧ l.f0 ≠ l.f1 ∧ timedP l.f2.f0 l.f2.f1 := by
  intro ls
  induction ls with
  | nil => intro _ l hl; cases hl
  | cons x r ih =>
    intro h l hl
    simp only [linksErr] at h
    split at h
    · rename_i h0
      rcases List.mem_cons.1 hl with rfl | hl
      · unfold linkErr at h0
        split at h0
        · omega
        · rename_i hb
          split at h0
          · omega
          · rename_i hne
            split at h0
            · rename_i ht
              unfold linkBad at hb
              refine ⟨?_, ?_, ?_, hne, ht⟩ <;> omega
            · omega
      · exact ih h l hl
    · rename_i h0; exact absurd h h0
theorem checkE_ok {nn uu : Int} {ls : List Lk} (h : checkE nn uu ls = 0) : NetOk nn uu ls := by
  unfold checkE at h
  split at h
  · rename_i h1
    split at h
    · omega
    · rename_i h2
      exact ⟨h1.1.1, h1.1.2, h1.2.1, h1.2.2, by omega, linksErr_ok nn uu ls h⟩
  · omega
end Go.Proofs.Ytgmglpnoppcnkaa
end
section
namespace Go.Proofs.Ytgmglpnoppcnkaa
open Go.RowKit Go.Proofs.YtgmglpnoppcnkaaW.PrintWords Go.Proofs.YtgmglpnoppcnkaaW.PrintLast Go.Proofs.YtgmglpnoppcnkaaW.PrintMore
set_option linter.unusedVariables false
set_option linter.unusedSimpArgs false
set_option maxRecDepth 100000
/-- An entry: key, value, stamp. -/
abbrev Ent := Int × Value × Nat
def mkE (x : Ent) : MapEntry := { key := .int .i64 x.1, val := x.2.1, born := x.2.2 }
/-- The map in block m. -/
def MapAt (w : World) (m : Nat) (L : List Ent) (clock : Nat) : Prop := w.heap[m]? = some (.map (L.map mkE).toArray clock)
def lookL : List Ent → Int → Option Value
  | [], _ => none
  | x :: L, k => if k = x.1 then some x.2.1 else lookL L k
def idxL : List Ent → Int → Nat → Option (Nat × Value)
  | [], _, _ => none
  | x :: L, k, i => if k = x.1 then some (i, x.2.1) else idxL L k (i + 1)
theorem idxL_look (L : List Ent) (k : Int) : ∀ i, (idxL L k i).map (·.2) = lookL L k := by
  induction L with
  | nil => intro i; rfl
  | cons x L ih => intro i; simp only [idxL, lookL]; split <;> simp [ih]
theorem findNow_int (L : List Ent) (k : Int) : ∀ i, Instr.findNow (.int .i64) (.int .i64 k) (L.map mkE) i = some (idxL L k i) := by
  induction L with
  | nil => intro i; rfl
  | cons x L ih =>
    intro i
    simp only [List.map_cons, Instr.findNow, mkE, Instr.sameNow, if_true, idxL]
    by_cases h : k = x.1
    · simp [h]
    · have e : (k == x.1) = false := by simp [h]
      rw [e, if_neg h]
      exact ih (i + 1)
theorem run_findKey (w : World) (L : List Ent) (k : Int) : (Instr.findKey 3 (.int .i64 k) (L.map mkE)).run Try.prog w = .ok (idxL L k 0) w := by
  simp only [Instr.findKey, Sem.run_bind, run_underlying Try.underlying3, Result.andThen, findNow_int, Sem.run_pure]
theorem run_checkKey (w : World) (b : Bool) (n : Nat) (k : Int) : (Instr.checkKey b (n + 1) 3 (.int .i64 k)).run Try.prog w = .ok () w := by
  simp only [Instr.checkKey, Sem.run_bind, run_underlying Try.underlying3, Result.andThen, Sem.run_pure]
theorem run_getMap {w : World} {m : Nat} {L : List Ent} {c : Nat} (h : MapAt w m L c) : (getObj m).run Try.prog w = .ok (.map (L.map mkE).toArray c) w := by
  simp [getObj, Sem.run, show w.heap[m]? = _ from h]
/-- m[k] -/
theorem run_look (w : World) (T e : TypeId) (hT : Try.prog.underlying T = some (.map 3 e)) (z : Value) (hz : (zeroValue e).run Try.prog w = .ok z w) (m : Nat) (L : List Ent) (c : Nat) (h : MapAt w m L c) (k : Int) :
    (Instr.lookup T (.map (some m)) (.int .i64 k) false).run Try.prog w = .ok ((lookL L k).getD z) w := by
  rw [← idxL_look L k 0]
  simp only [Instr.lookup, Sem.run_bind, run_underlying hT, Result.andThen, run_getMap h, Sem.run_pure, run_checkKey, run_findKey]
  cases idxL L k 0 with
  | none => simp only [Sem.run_bind, hz, Result.andThen, Sem.run_pure]; rfl
  | some r => rfl
/-- v, ok := m[k] -/
theorem run_look_ok (w : World) (T e : TypeId) (hT : Try.prog.underlying T = some (.map 3 e)) (z : Value) (hz : (zeroValue e).run Try.prog w = .ok z w) (m : Nat) (L : List Ent) (c : Nat) (h : MapAt w m L c) (k : Int) :
    (Instr.lookup T (.map (some m)) (.int .i64 k) true).run Try.prog w = .ok (.tuple #[(lookL L k).getD z, .bool (lookL L k).isSome]) w := by
  rw [← idxL_look L k 0]
  simp only [Instr.lookup, Sem.run_bind, run_underlying hT, Result.andThen, run_getMap h, Sem.run_pure, run_checkKey, run_findKey]
  cases idxL L k 0 with
  | none => simp only [Sem.run_bind, hz, Result.andThen, Sem.run_pure]; rfl
  | some r => rfl
/-- What a store leaves. -/
def putL (L : List Ent) (c : Nat) (k : Int) (v : Value) : List Ent := if (lookL L k).isSome then setL L k v else L ++ [(k, v, c)]
where
  setL : List Ent → Int → Value → List Ent
  | [], _, _ => []
  | x :: L, k, v => if k = x.1 then (k, v, x.2.2) :: L else x :: setL L k v
theorem modify_idx (L : List Ent) (k : Int) (v : Value) : ∀ i j u, idxL L k i = some (j, u) → ∃ d, j = i + d ∧ ((L.map mkE)[d]?).map (·.key) = some (.int .i64 k) ∧ (L.map mkE).modify d (fun e => { e with key := .int .i64 k, val := v }) = (putL.setL L k v).map mkE := by
  induction L with
  | nil => intro i j u h; simp [idxL] at h
  | cons x L ih =>
    intro i j u h
    simp only [idxL] at h
    by_cases hk : k = x.1
    · rw [if_pos hk] at h
      simp only [Option.some.injEq, Prod.mk.injEq] at h
      refine ⟨0, by omega, ?_, ?_⟩
      · simp [mkE, hk]
      · simp [putL.setL, hk, mkE]
    · rw [if_neg hk] at h
      obtain ⟨d, hd, h1, h2⟩ := ih (i + 1) j u h
      refine ⟨d + 1, by omega, ?_, ?_⟩
      · simpa using h1
      · simp only [List.map_cons, List.modify_succ_cons, putL.setL, if_neg hk, List.map_cons]
        rw [h2]
theorem lookL_set (L : List Ent) (k k' : Int) (v : Value) (h : (lookL L k).isSome = true) : lookL (putL.setL L k v) k' = if k' = k then some v else lookL L k' := by
  induction L with
  | nil => simp [lookL] at h
  | cons x L ih =>
    simp only [putL.setL]
    by_cases hk : k = x.1
    · rw [if_pos hk]
      simp only [lookL, ← hk]
      by_cases h1 : k' = k
      · rw [if_pos h1, if_pos h1]
      · rw [if_neg h1, if_neg h1, if_neg h1]
    · rw [if_neg hk]
      simp only [lookL, if_neg hk] at h ⊢
      rw [ih h]
      by_cases h1 : k' = x.1
      · rw [if_pos h1, if_pos h1, if_neg (by rw [h1]; exact fun e => hk e.symm)]
      · rw [if_neg h1, if_neg h1]
theorem lookL_append (L : List Ent) (k k' : Int) (v : Value) (c : Nat) (h : lookL L k = none) : lookL (L ++ [(k, v, c)]) k' = if k' = k then some v else lookL L k' := by
  induction L with
  | nil => simp [lookL]
  | cons x L ih =>
    simp only [lookL] at h ⊢
    by_cases hk : k = x.1
    · rw [if_pos hk] at h; cases h
    · rw [if_neg hk] at h
      simp only [List.cons_append, lookL]
      rw [ih h]
      by_cases h1 : k' = x.1
      · rw [if_pos h1, if_pos h1, if_neg (by rw [h1]; exact fun e => hk e.symm)]
      · rw [if_neg h1, if_neg h1]
theorem lookL_put (L : List Ent) (c : Nat) (k k' : Int) (v : Value) : lookL (putL L c k v) k' = if k' = k then some v else lookL L k' := by
  unfold putL
  split
  · rename_i h; exact lookL_set L k k' v h
  · rename_i h; exact lookL_append L k k' v c (by simpa using h)
/-- m[k] = v -/
theorem run_store (w : World) (T e : TypeId) (hT : Try.prog.underlying T = some (.map 3 e)) (m : Nat) (L : List Ent) (c : Nat) (h : MapAt w m L c) (k : Int) (v : Value) :
    ∃ c', (Instr.mapUpdate T (.map (some m)) (.int .i64 k) v).run Try.prog w = .ok () { w with heap := w.heap.setIfInBounds m (.map ((putL L c k v).map mkE).toArray c') } := by
  have hset : ∀ o : Obj, (setObj m o).run Try.prog w = .ok () { w with heap := w.heap.setIfInBounds m o } := fun o => by simp [setObj, Sem.run, show w.heap[m]? = _ from h]
  simp only [Instr.mapUpdate, Sem.run_bind, run_underlying hT, Result.andThen, run_getMap h, run_checkKey, run_findKey]
  have hl := idxL_look L k 0
  cases hi : idxL L k 0 with
  | none =>
    rw [hi] at hl
    have hl' : lookL L k = none := hl.symm
    refine ⟨c + 1, ?_⟩
    simp only [hset]
    unfold putL
    rw [hl']
    simp [mkE]
  | some r =>
    obtain ⟨j, u⟩ := r
    rw [hi] at hl
    have hl' : lookL L k = some u := hl.symm
    obtain ⟨d, hd, h1, h2⟩ := modify_idx L k v 0 j u hi
    obtain rfl : j = d := by omega
    refine ⟨c, ?_⟩
    have hkey : (((L.map mkE).toArray[j]?).map (·.key)).getD (.int .i64 k) = .int .i64 k := by
      rw [List.getElem?_toArray, h1]; rfl
    simp only [Sem.run_bind, hkey, Instr.keyThatStays, Instr.sameBits, beq_self_eq_true, Bool.and_self, if_true, Sem.run_pure, Result.andThen, hset]
    unfold putL
    rw [hl']
    simp only [Option.isSome_some, if_true]
    rw [← h2]
    simp
end Go.Proofs.Ytgmglpnoppcnkaa
end
section
namespace Go.Proofs.Ytgmglpnoppcnkaa
open Go.RowKit Go.Proofs.YtgmglpnoppcnkaaW.PrintWords Go.Proofs.YtgmglpnoppcnkaaW.PrintLast Go.Proofs.YtgmglpnoppcnkaaW.PrintMore
set_option linter.unusedVariables false
set_option linter.unusedSimpArgs false
set_option maxRecDepth 100000
def linksCs : List Lk → List Value
  | [] => []
  | l :: r => (linkCs l).toList ++ linksCs r
theorem linkCs_length (l : Lk) : (linkCs l).toList.length = 6 := rfl
theorem linksCs_append (a b : List Lk) : linksCs (a ++ b) = linksCs a ++ linksCs b := by
  induction a with
  | nil => rfl
  | cons l r ih => simp [linksCs, ih]
theorem linksCs_get (ls : List Lk) (i j : Nat) (hi : i < ls.length) (hj : j < 6) : (linksCs ls)[i * 6 + j]? = (linkCs ls[i]).toList[j]? := by
  induction ls generalizing i with
  | nil => simp at hi
  | cons l r ih =>
    cases i with
    | zero => rw [linksCs, List.getElem?_append_left (by rw [linkCs_length]; omega)]; simp
    | succ i =>
      rw [linksCs, List.getElem?_append_right (by rw [linkCs_length]; omega), linkCs_length, show (i + 1) * 6 + j - 6 = i * 6 + j by omega]
      exact ih i (by simpa using hi)
/-- The links from a node. -/
def grp (ls : List Lk) (k : Int) : List Lk := ls.filter (fun l => decide (l.f0 = k))
theorem grp_snoc (ls : List Lk) (l : Lk) (k : Int) : grp (ls ++ [l]) k = if l.f0 = k then grp ls k ++ [l] else grp ls k := by
  unfold grp
  rw [List.filter_append]
  by_cases h : l.f0 = k <;> simp [h]
theorem grp_len (ls : List Lk) (k : Int) : (grp ls k).length ≤ ls.length := List.length_filter_le ..
def rowV (L : List Ent) (k : Int) : Value := (lookL L k).getD (.slice none 0 0)
/-- The rows of links, by the nodes. -/
structure Groups (w : World) (B m : Nat) (L : List Ent) (c : Nat) (ls : List Lk) : Prop where
  map : MapAt w m L c
  own : ∀ k, w.ownsRow B 88 6 (rowV L k) (grp ls k).length (linksCs (grp ls k))
  ne : ∀ k k', k ≠ k' → ∀ b, (rowV L k).ownBlock = some b → (rowV L k').ownBlock ≠ some b
theorem Groups.below {w W : World} {B m : Nat} {L : List Ent} {c : Nat} {ls : List Lk} (h : Groups w B m L c ls) (hb : Below w.heap.size w W) : Groups W B m L c ls :=
  ⟨(hb.block m (blk_lt h.map)).trans h.map, fun k => own_move (h.own k) (fun i hi => hb.block i (own_lt (h.own k) i hi)), h.ne⟩
theorem Groups.kp {w W : World} {B m : Nat} {L : List Ent} {c : Nat} {ls : List Lk} {S : Nat → Prop} (h : Groups w B m L c ls) (hk : Kp w W S) (h1 : ¬ S m) (h2 : ∀ k i, (rowV L k).ownBlock = some i → ¬ S i) : Groups W B m L c ls :=
  ⟨(hk.block m (blk_lt h.map) h1).trans h.map, fun k => own_move (h.own k) (fun i hi => hk.block i (own_lt (h.own k) i hi) (h2 k i hi)), h.ne⟩
theorem hu196 : Try.prog.underlying 196 = some (.map 3 30) := by kernel_rfl
theorem zero30 (w : World) : (zeroValue 30).run Try.prog w = .ok (.slice none 0 0) w := by
  rfl
theorem info88 : (Try.prog.info? 88).map (fun i => (i.zero, i.size, i.bytes)) = some (some (.agg #[.int .i64 0, .int .i64 0, .int .i64 0, .int .i64 0, .int .i64 0, .bool false]), 6, 48) := by kernel_rfl
/-- A web: the network, the start, and the map of the rows of links by the nodes. -/
def WebAt (w : World) (B wp : Nat) (nn uu : Int) (sv : Value) (sn lo hi : Int) (ls : List Lk) : Prop :=
  B ≤ wp ∧ ∃ m L c, w.heap[wp]? = some (.cells #[.int .i64 nn, .int .i64 uu, sv, .int .i64 sn, .int .i64 lo, .int .i64 hi, .map (some m)] 198 (0, 0)) ∧ B ≤ m ∧ Groups w B m L c ls
/-- At the head of weave's loop. -/
structure WInv (w : World) (wp m : Nat) (nn uu : Int) (sv : Value) (sn lo hi : Int) (ls : List Lk) (i : Nat) (wr : World) : Prop where
  web : wr.heap[wp]? = some (.cells #[.int .i64 nn, .int .i64 uu, sv, .int .i64 sn, .int .i64 lo, .int .i64 hi, .map (some m)] 198 (0, 0))
  rows : ∃ L c, Groups wr w.heap.size m L c (ls.take i)
  kp : Below w.heap.size w wr
  wpge : w.heap.size ≤ wp
  mge : w.heap.size ≤ m
theorem WInv.keep {w wr W : World} {wp m : Nat} {nn uu : Int} {sv : Value} {sn lo hi : Int} {ls : List Lk} {i : Nat} (h : WInv w wp m nn uu sv sn lo hi ls i wr) (hb : Below wr.heap.size wr W) : WInv w wp m nn uu sv sn lo hi ls i W := by
  obtain ⟨h1, ⟨L, c, h2⟩, h3, h4, h5⟩ := h
  exact ⟨blk_below h1 hb, ⟨L, c, h2.below hb⟩, below_step h3 hb, h4, h5⟩
theorem groups_nil {w : World} {B m : Nat} (h : w.heap[m]? = some (.map #[] 0)) : Groups w B m [] 0 [] := by
  refine ⟨h, fun k => ⟨rfl, .inl ⟨rfl, rfl⟩⟩, fun k k' _ b hb => ?_⟩
  simp [rowV, lookL, Value.ownBlock] at hb
/-- What weave leaves. -/
def WeavePost (w : World) (nn uu : Int) (sv : Value) (ls : List Lk) (sn lo hi : Int) (e : Ending) (w' : World) : Prop :=
  Below w.heap.size w w' ∧
  ((startE nn uu ls sn lo hi ≠ 0 ∧ e = .returned (.tuple #[.pointer none, .int .i64 (startE nn uu ls sn lo hi)])) ∨
   (startE nn uu ls sn lo hi = 0 ∧ ∃ wp, e = .returned (.tuple #[.pointer (some ⟨wp, 0, none⟩), .int .i64 0]) ∧ WebAt w' w.heap.size wp nn uu sv sn lo hi ls))
/-- The cells that the region of a round reads. -/
def WSees (wp m lb : Nat) (l : Lk) (W : World) : Prop :=
  W.cell? ⟨wp, 6, none⟩ = some (.map (some m)) ∧ W.cell? ⟨lb, 0, none⟩ = some (.int .i64 l.f0) ∧ W.cell? ⟨lb, 1, none⟩ = some (.int .i64 l.f1) ∧ W.cell? ⟨lb, 2, none⟩ = some (.int .i64 l.f2.f0) ∧ W.cell? ⟨lb, 3, none⟩ = some (.int .i64 l.f2.f1) ∧ W.cell? ⟨lb, 4, none⟩ = some (.int .i64 l.f3) ∧ W.cell? ⟨lb, 5, none⟩ = some (.bool l.f4)
theorem wsees {wp m lb : Nat} {l : Lk} {W : World} {nn uu : Int} {sv : Value} {sn lo hi : Int} (h1 : W.heap[wp]? = some (.cells #[.int .i64 nn, .int .i64 uu, sv, .int .i64 sn, .int .i64 lo, .int .i64 hi, .map (some m)] 198 (0, 0))) (h2 : W.heap[lb]? = some (.cells (linkCs l) 88 (0, 0))) : WSees wp m lb l W :=
  ⟨blk_cell h1 6, blk_cell h2 0, blk_cell h2 1, blk_cell h2 2, blk_cell h2 3, blk_cell h2 4, blk_cell h2 5⟩
theorem take_snoc (ls : List Lk) (i : Nat) (h : i < ls.length) : ls.take (i + 1) = ls.take i ++ [ls[i]] := by
  rw [List.take_add_one, List.getElem?_eq_getElem h]; rfl
/-- Behind the append and the store of a round. -/
theorem weave_step {w wr A w2 : World} {wp m lb g cap : Nat} {nn uu : Int} {sv : Value} {sn lo hi : Int} {ls : List Lk} {i : Nat} {l : Lk} {L : List Ent} {c : Nat} (hi0 : i < ls.length) (hl : l = ls[i])
    (hweb : A.heap[wp]? = some (.cells #[.int .i64 nn, .int .i64 uu, sv, .int .i64 sn, .int .i64 lo, .int .i64 hi, .map (some m)] 198 (0, 0))) (hlb : A.heap[lb]? = some (.cells (linkCs l) 88 (0, 0)))
    (hlb2 : ∀ k, (rowV L k).ownBlock ≠ some lb)
    (hG : Groups A w.heap.size m L c (ls.take i)) (hk : Below w.heap.size w A) (hwp : w.heap.size ≤ wp) (hm : w.heap.size ≤ m)
    (ho : w2.ownsRow w.heap.size 88 6 (.slice (some ⟨g, 0, none⟩) ((grp (ls.take i) l.f0).length + 1) cap) ((grp (ls.take i) l.f0).length + 1) (linksCs (grp (ls.take i) l.f0) ++ (linkCs l).toList))
    (hg : A.grownBy w2 (rowV L l.f0).ownBlock) (hor : (rowV L l.f0).ownBlock = some g ∨ g = A.heap.size) (hlt : g < w2.heap.size) :
    ∃ w3, (Instr.mapUpdate 196 (.map (some m)) (.int .i64 l.f0) (.slice (some ⟨g, 0, none⟩) ((grp (ls.take i) l.f0).length + 1) cap)).run Try.prog w2 = .ok () w3 ∧ WSees wp m lb l w2 ∧ WSees wp m lb l w3 ∧ WInv w wp m nn uu sv sn lo hi ls (i + 1) w3 := by
  have hmA := hG.map
  have hmne : ∀ k, (rowV L k).ownBlock ≠ some m := fun k e => by
    obtain ⟨cells, hc⟩ := own_typed (hG.own k) m e
    rw [hmA] at hc
    simp at hc
  have hweb2 : w2.heap[wp]? = some (.cells #[.int .i64 nn, .int .i64 uu, sv, .int .i64 sn, .int .i64 lo, .int .i64 hi, .map (some m)] 198 (0, 0)) := blk_grown hweb hg (fun e => own_ne hweb (hG.own l.f0) (by decide) e.symm)
  have hlbg : w2.heap[lb]? = some (.cells (linkCs l) 88 (0, 0)) := blk_grown hlb hg (fun e => hlb2 l.f0 e.symm)
  have hm2 : MapAt w2 m L c := (hg.block m (blk_lt hmA) (fun e => hmne l.f0 e.symm)).trans hmA
  obtain ⟨c', hst⟩ := run_store w2 196 30 hu196 m L c hm2 l.f0 (.slice (some ⟨g, 0, none⟩) ((grp (ls.take i) l.f0).length + 1) cap)
  obtain ⟨w3, hw3⟩ : ∃ w3, w3 = { w2 with heap := w2.heap.setIfInBounds m (.map ((putL L c l.f0 (.slice (some ⟨g, 0, none⟩) ((grp (ls.take i) l.f0).length + 1) cap)).map mkE).toArray c') } := ⟨_, rfl⟩
  rw [← hw3] at hst
  have hfar : ∀ k, k ≠ m → w3.heap[k]? = w2.heap[k]? := fun k hk => by rw [hw3]; simp [Array.getElem?_setIfInBounds, Ne.symm hk]
  have hwpm : wp ≠ m := fun e => by rw [e, hmA] at hweb; simp at hweb
  have hlbm : lb ≠ m := fun e => by rw [e, hmA] at hlb; simp at hlb
  have hweb3 := (hfar wp hwpm).trans hweb2
  have hlb3 := (hfar lb hlbm).trans hlbg
  have hsz : w3.heap.size = w2.heap.size := by rw [hw3]; simp
  refine ⟨w3, hst, wsees hweb2 hlbg, wsees hweb3 hlb3, hweb3, ⟨putL L c l.f0 (.slice (some ⟨g, 0, none⟩) ((grp (ls.take i) l.f0).length + 1) cap), c', ?_, ?_, ?_⟩, ?_, hwp, hm⟩
  · show w3.heap[m]? = _
    rw [hw3]
    simp [Array.getElem?_setIfInBounds, blk_lt hm2]
  · intro k
    have hgm : g ≠ m := fun e => by
      rcases hor with h | h
      · exact hmne _ (by rw [h, e])
      · have := blk_lt hmA; omega
    rw [take_snoc ls i hi0, ← hl, grp_snoc]
    unfold rowV
    rw [lookL_put]
    by_cases hkk : k = l.f0
    · subst hkk
      rw [if_pos rfl, if_pos rfl, Option.getD_some, linksCs_append, List.length_append]
      refine own_move ?_ (fun q hq => ?_) (w := w2)
      · simpa [linksCs] using ho
      · have : g = q := by simpa [Value.ownBlock] using hq
        subst this
        exact hfar g hgm
    · rw [if_neg hkk, if_neg (fun e => hkk e.symm)]
      refine own_move (hG.own k) (fun q hq => ?_)
      have hqm : q ≠ m := fun e => hmne k (by rw [← e]; exact hq)
      rw [hfar q hqm]
      exact hg.block q (own_lt (hG.own k) q hq) (fun e => hG.ne k l.f0 hkk q hq e.symm)
  · intro k k' hkk b hb
    unfold rowV at hb ⊢
    rw [lookL_put] at hb ⊢
    by_cases h1 : k = l.f0
    · rw [if_pos h1] at hb
      rw [if_neg (fun e => hkk (h1.trans e.symm))]
      have hgb : g = b := by simpa [Value.ownBlock] using hb
      subst hgb
      intro e
      rcases hor with h | h
      · exact hG.ne l.f0 k' (fun e2 => hkk (h1.trans e2)) g h e
      · have := own_lt (hG.own k') g e; omega
    · rw [if_neg h1] at hb
      by_cases h2 : k' = l.f0
      · rw [if_pos h2]
        intro e
        have hgb : g = b := by simpa [Value.ownBlock] using e
        subst hgb
        rcases hor with h | h
        · exact hG.ne k l.f0 h1 g hb h
        · have := own_lt (hG.own k) g hb; omega
      · rw [if_neg h2]
        exact hG.ne k k' hkk b hb
  · refine ⟨?_, ?_, ?_, by rw [hsz]; exact Nat.le_trans hk.size hg.size, fun q hq => ?_⟩
    · rw [hw3]; exact hg.os.trans hk.os
    · rw [hw3]; exact hg.tape.trans hk.tape
    · rw [hw3]; exact hg.output.trans hk.output
    · rw [hfar q (by omega), hg.block q (Nat.lt_of_lt_of_le hq hk.size) (fun e => by have := own_base (hG.own l.f0) q e.symm; omega)]
      exact hk.block q hq
theorem map_run (W : World) (o : Oper) (ev : Operand → Value) (ho : o.op = .makeMap 196 none) : (execOp ev o).run Try.prog W = .ok (.value (.map (some W.heap.size))) (W.alloc (.map #[] 0)) := by
  unfold execOp
  rw [ho]
  rfl
set_option maxHeartbeats 4000000 in
theorem weave_calls (nn uu : Int) (A : Option Addr) (c : Nat) (ls : List Lk) (sn lo hi : Int) (w : World) (hr : Kd.C PB.k88 w A ls.length ls) (hc : ls.length ≤ c) :
    Calls Try.prog 68 #[.agg #[.int .i64 nn, .int .i64 uu, .slice A ls.length c], .agg #[.int .i64 sn, .int .i64 lo, .int .i64 hi]] w (WeavePost w nn uu (.slice A ls.length c) ls sn lo hi) := by
  obtain ⟨i0, hi0, hz0, hz1, hz2⟩ := info_parts info88
  obtain ⟨k, hk⟩ := check_eq nn uu ls
  have HK := Aside0.mk hk
  have HR := Aside0.mk hr
  have HC := Aside0.mk hc
  clear hk hr hc
  go_enter Try.func68, Try.ntmps68
  go_wp2_with ((with_reducible refine gate_dst (N := 2) rfl ?_); refine hold ?_)
  refine box_event rfl (N := 2) rfl (cs := #[.int .i64 nn, .int .i64 uu, .slice A ls.length c]) (t := 32) (by go_simp) ?_
  intro bn hbn w1 hb1 hB1
  have hge : Aside0 (w.heap.size ≤ bn) := ⟨by omega⟩
  have HB1 := Aside0.mk hB1
  have Hb1 := Aside0.mk hb1
  clear hbn hB1 hb1
  go_wp2_with ((with_reducible refine gate_dst (N := 3) rfl ?_); refine hold ?_)
  refine box_event rfl (N := 3) rfl (cs := #[.int .i64 sn, .int .i64 lo, .int .i64 hi]) (t := 43) (by go_simp) ?_
  intro bs hbs w2 hb2 hB2
  have HB2 := Aside0.mk (below_step HB1.out hB2)
  have hge2 : w.heap.size ≤ bs := by have := HB1.out.size; omega
  have hb1' := blk_below Hb1.out hB2
  have C : ∀ W, Below w2.heap.size w2 W → W.heap[bn]? = some (.cells #[.int .i64 nn, .int .i64 uu, .slice A ls.length c] 32 (0, 0)) ∧ W.heap[bs]? = some (.cells #[.int .i64 sn, .int .i64 lo, .int .i64 hi] 43 (0, 0)) := fun W h => ⟨blk_below hb1' h, blk_below hb2 h⟩
  have HCC := Aside0.mk C
  have C0 : w2.cell? ⟨bn, 0, none⟩ = some (.int .i64 nn) := blk_cell (C _ (Below.refl _ _)).1 0
  have C1 : w2.cell? ⟨bn, 1, none⟩ = some (.int .i64 uu) := blk_cell (C _ (Below.refl _ _)).1 1
  have C2 : w2.cell? ⟨bn, 2, none⟩ = some (.slice A ls.length c) := blk_cell (C _ (Below.refl _ _)).1 2
  have HS := Aside0.mk (And.intro hge.out hge2)
  clear C hb1' hb2 hB2 Hb1 HB1 hge hge2 hbs
  by_cases h0 : checkE nn uu ls = 0
  · rw [h0] at HK
    have HOK := checkE_ok h0
    have hn1 := HOK.n1
    have hn2 := HOK.n2
    have HOKA := Aside0.mk HOK
    have hwr : IntKind.i64.wrap (nn - 1) = nn - 1 := by rw [i64_w]; unfold wrap64; omega
    clear HOK hn1 hn2
    by_cases h1 : 0 ≤ sn ∧ sn ≤ nn - 1
    · have hN1 : PB.spread_within.f sn 0 (nn - 1) = some true := by rw [within_eq, decide_eq_true h1]
      have HN1 := Aside0.mk hN1
      have HN := Aside0.mk (And.intro h0 h1)
      clear h0 h1 hN1
      by_cases h2 : timedP lo hi
      · have hT1 : PB.spread_timed.f lo hi = some true := by rw [timed_eq, decide_eq_true h2]
        have HT1 := Aside0.mk hT1
        have HT := Aside0.mk h2
        clear h2 hT1
        go_wp2_with (first | (first | (go_at_call 29; refine ((PB.spread_Check.calls k nn uu A c ls _ _ (Kd.C_below HR.out HB2.out) HC.out HK.out).mono ?_); rintro e w3 ⟨rfl, hb⟩; have B3 := Aside0.mk hb; have D0 : w3.cell? ⟨bs, 0, none⟩ = some (.int .i64 sn) := blk_cell (HCC.out _ hb).2 0; have D1 : w3.cell? ⟨bn, 0, none⟩ = some (.int .i64 nn) := blk_cell (HCC.out _ hb).1 0; clear hb C0 C1 C2) | (go_at_call 72; refine ((PB.spread_within.calls _ _ _ _ _ HN1.out).mono ?_); rintro e w4 ⟨rfl, hb⟩; have B4 := Aside0.mk (below_step B3.out hb.below); have D2 : w4.cell? ⟨bs, 1, none⟩ = some (.int .i64 lo) := blk_cell (HCC.out _ B4.out).2 1; have D3 : w4.cell? ⟨bs, 2, none⟩ = some (.int .i64 hi) := blk_cell (HCC.out _ B4.out).2 2; clear hb D0 D1) | (go_at_call 87; refine ((PB.spread_timed.calls _ _ _ _ HT1.out).mono ?_); rintro e w5 ⟨rfl, hb⟩; have B5 := Aside0.mk (below_step B4.out hb); clear hb D2 D3; try (have C0 : w5.cell? ⟨bn, 0, none⟩ = some (.int .i64 nn) := blk_cell (HCC.out _ B5.out).1 0; have C1 : w5.cell? ⟨bn, 1, none⟩ = some (.int .i64 uu) := blk_cell (HCC.out _ B5.out).1 1; have C2 : w5.cell? ⟨bn, 2, none⟩ = some (.slice A ls.length c) := blk_cell (HCC.out _ B5.out).1 2; have D0 : w5.cell? ⟨bs, 0, none⟩ = some (.int .i64 sn) := blk_cell (HCC.out _ B5.out).2 0; have D1 : w5.cell? ⟨bs, 1, none⟩ = some (.int .i64 lo) := blk_cell (HCC.out _ B5.out).2 1; have D2 : w5.cell? ⟨bs, 2, none⟩ = some (.int .i64 hi) := blk_cell (HCC.out _ B5.out).2 2))) | ((with_reducible refine gate_dst (N := 30) rfl ?_); refine hold ?_))
        refine Kd.event_run (v := .map (some w5.heap.size)) (w1 := w5.alloc (.map #[] 0)) rfl (map_run _ _ _ rfl) ?_
        obtain ⟨w6, hw6⟩ : ∃ w6, w6 = w5.alloc (.map #[] 0) := ⟨_, rfl⟩
        obtain ⟨m, hm⟩ : ∃ m, m = w5.heap.size := ⟨_, rfl⟩
        rw [← hw6, ← hm]
        have hb6 : Below w5.heap.size w5 w6 := by rw [hw6]; exact below_alloc (Below.refl _ _) _
        have B6 := Aside0.mk (below_step B5.out hb6)
        have hmp : w6.heap[m]? = some (.map #[] 0) := by rw [hw6, hm]; exact blk_new w5 _
        have hmge : w.heap.size ≤ m := by have := B5.out.size; have := HB2.out.size; omega
        have HM := Aside0.mk (And.intro hmp hmge)
        clear C0 C1 C2 D0 D1 D2 hw6 hb6 hmp hmge hm
        have C3 : w6.cell? ⟨bn, 2, none⟩ = some (.slice A ls.length c) := blk_cell (HCC.out _ B6.out).1 2
        go_wp2_with ((with_reducible refine gate_dst (N := 32) rfl ?_); refine hold ?_)
        refine box_event rfl (N := 32) rfl (cs := #[.int .i64 nn, .int .i64 uu, .slice A ls.length c, .int .i64 sn, .int .i64 lo, .int .i64 hi, .map (some m)]) (t := 198) (by go_simp) ?_
        intro wp hwp w7 hb7 hB7
        have HI0 : Aside0 (WInv w wp m nn uu (.slice A ls.length c) sn lo hi ls 0 w7) := by
          have h1 := below_step HB2.out B6.out
          refine ⟨⟨hb7, ⟨[], 0, ?_⟩, below_step h1 hB7, by have := h1.size; omega, HM.out.2⟩⟩
          rw [List.take_zero]
          exact groups_nil ((hB7.block m (blk_lt HM.out.1)).trans HM.out.1)
        have B7 := Aside0.mk (below_step HB2.out (below_step B6.out hB7))
        have C3 : w7.cell? ⟨bn, 2, none⟩ = some (.slice A ls.length c) := blk_cell (HCC.out _ (below_step B6.out hB7)).1 2
        have HLEN := Aside0.mk HOKA.out.len
        clear hb7 hB7 hwp B6 B5 B4 B3 HCC HT1 HN1 HS HM hwr
        go_wp2
        clear C3
        go_loopw [36] (fun v wr => ∃ (i : Nat), v = .int .i64 i ∧ i ≤ ls.length ∧ Aside0 (WInv w wp m nn uu (.slice A ls.length c) sn lo hi ls i wr)) (fun v _ => ls.length - (intOf v).toNat)
        case atStart => exact ⟨0, rfl, Nat.zero_le _, HI0⟩
        case round =>
          obtain ⟨i, rfl, hile, HI⟩ := hrel
          clear HI0
          obtain ⟨wo, rfl⟩ : ∃ wo, wo = wr := ⟨_, rfl⟩
          by_cases hgo : i < ls.length
          · obtain ⟨l, hl⟩ : ∃ l, l = ls[i] := ⟨_, rfl⟩
            have HL := Aside0.mk hl
            clear hl
            have hrd : PB.rd_T88 ls (i : Int) = l := by rw [HL.out]; simp [PB.rd_T88, List.getElem?_eq_getElem hgo]
            have ea := PB.at_T88 (Kd.C_below HR.out HI.out.kp) (i : Int) (by omega) (by omega)
            rw [hrd, Int.toNat_natCast] at ea
            obtain ⟨ad, rfl, e0, e1, e2, e3, e4, e5⟩ := ea
            clear hrd
            have hi256 : i < 256 := by have := HLEN.out; omega
            have hwi : IntKind.i64.wrap ((i : Int) + 1) = (i : Int) + 1 := by rw [i64_w]; unfold wrap64; omega
            go_wp2
            obtain ⟨L, cl, hG0⟩ := HI.out.rows
            obtain ⟨W1, hW1⟩ : ∃ W1, W1 = wo.alloc (.cells #[.int .i64 l.f0, .int .i64 l.f1, .int .i64 l.f2.f0, .int .i64 l.f2.f1, .int .i64 l.f3, .bool l.f4] 88) := ⟨_, rfl⟩
            obtain ⟨lb, hlb⟩ : ∃ lb, lb = wo.heap.size := ⟨_, rfl⟩
            rw [← hW1, ← hlb]
            have hb1 : Below wo.heap.size wo W1 := by rw [hW1]; exact below_alloc (Below.refl _ _) _
            have hlb1 : W1.heap[lb]? = some (.cells #[.int .i64 l.f0, .int .i64 l.f1, .int .i64 l.f2.f0, .int .i64 l.f2.f1, .int .i64 l.f3, .bool l.f4] 88 (0, 0)) := by rw [hW1, hlb]; exact blk_new wo _
            have HI1 := HI.out.keep hb1
            have hG1 := hG0.below hb1
            have hlb2 : ∀ k, (rowV L k).ownBlock ≠ some lb := fun k e => by have := own_lt (hG0.own k) lb e; omega
            clear e0 e1 e2 e3 e4 e5 hW1 hlb hb1 HI hG0
            have hbD : Below W1.heap.size W1 W1.drew := below_drew1 (Below.refl _ _)
            have hbA : Below W1.heap.size W1 ((W1.alloc (.cells #[.int .i64 l.f0, .int .i64 l.f1, .int .i64 l.f2.f0, .int .i64 l.f2.f1, .int .i64 l.f3, .bool l.f4] 88)).drew) := below_drew1 (below_alloc (Below.refl _ _) _)
            have hS0 : WSees wp m lb l W1.drew := wsees (HI1.keep hbD).web (blk_below hlb1 hbD)
            have hS1 : WSees wp m lb l ((W1.alloc (.cells #[.int .i64 l.f0, .int .i64 l.f1, .int .i64 l.f2.f0, .int .i64 l.f2.f1, .int .i64 l.f3, .bool l.f4] 88)).drew) := wsees (HI1.keep hbA).web (blk_below hlb1 hbA)
            obtain ⟨sv, hsv⟩ : ∃ sv, sv = rowV L l.f0 := ⟨_, rfl⟩
            have hLD : (Instr.lookup 196 (.map (some m)) (.int .i64 l.f0) false).run Try.prog W1.drew = .ok sv W1.drew := by rw [hsv]; exact run_look _ 196 30 hu196 _ (zero30 _) m L cl (hG1.below hbD).map l.f0
            have hLA : (Instr.lookup 196 (.map (some m)) (.int .i64 l.f0) false).run Try.prog ((W1.alloc (.cells #[.int .i64 l.f0, .int .i64 l.f1, .int .i64 l.f2.f0, .int .i64 l.f2.f1, .int .i64 l.f3, .bool l.f4] 88)).drew) = .ok sv ((W1.alloc (.cells #[.int .i64 l.f0, .int .i64 l.f1, .int .i64 l.f2.f0, .int .i64 l.f2.f1, .int .i64 l.f3, .bool l.f4] 88)).drew) := by rw [hsv]; exact run_look _ 196 30 hu196 _ (zero30 _) m L cl (hG1.below hbA).map l.f0
            have hownA : Aside0 (((W1.alloc (.cells #[.int .i64 l.f0, .int .i64 l.f1, .int .i64 l.f2.f0, .int .i64 l.f2.f1, .int .i64 l.f3, .bool l.f4] 88)).drew).ownsRow w.heap.size 88 6 sv (grp (ls.take i) l.f0).length (linksCs (grp (ls.take i) l.f0))) := ⟨by rw [hsv]; exact (hG1.below hbA).own l.f0⟩
            have hnewsA : Aside0 (∀ j u, [.int .i64 l.f0, .int .i64 l.f1, .int .i64 l.f2.f0, .int .i64 l.f2.f1, .int .i64 l.f3, .bool l.f4][j]? = some u → ((W1.alloc (.cells #[.int .i64 l.f0, .int .i64 l.f1, .int .i64 l.f2.f0, .int .i64 l.f2.f1, .int .i64 l.f3, .bool l.f4] 88)).drew).cell? ((⟨W1.heap.size, 0, none⟩ : Addr).add j) = some u) := ⟨World.news_of_block (w := (W1.alloc (.cells #[.int .i64 l.f0, .int .i64 l.f1, .int .i64 l.f2.f0, .int .i64 l.f2.f1, .int .i64 l.f3, .bool l.f4] 88)).drew) (cs := #[.int .i64 l.f0, .int .i64 l.f1, .int .i64 l.f2.f0, .int .i64 l.f2.f1, .int .i64 l.f3, .bool l.f4]) (blk_drew (blk_new W1 _))⟩
            have hn : (grp (ls.take i) l.f0).length ≤ 256 := by
              have h1 := grp_len (ls.take i) l.f0
              have h2 := HLEN.out
              rw [List.length_take] at h1
              omega
            have hbase : Aside0 (w.heap.size ≤ (W1.alloc (.cells #[.int .i64 l.f0, .int .i64 l.f1, .int .i64 l.f2.f0, .int .i64 l.f2.f1, .int .i64 l.f3, .bool l.f4] 88)).drew.heap.size) := ⟨Nat.le_trans HI1.kp.size hbA.size⟩
            have HSTEP := fun g cap w2 => @weave_step w wo ((W1.alloc (.cells #[.int .i64 l.f0, .int .i64 l.f1, .int .i64 l.f2.f0, .int .i64 l.f2.f1, .int .i64 l.f3, .bool l.f4] 88)).drew) w2 wp m lb g cap nn uu (.slice (some ad) ls.length c) sn lo hi ls i l L cl hgo HL.out (HI1.keep hbA).web (blk_below hlb1 hbA) hlb2 (hG1.below hbA) (below_step HI1.kp hbA) HI1.wpge HI1.mge
            rw [← hsv] at HSTEP
            have HST := Aside0.mk HSTEP
            obtain ⟨N, hN⟩ : ∃ N, N = (grp (ls.take i) l.f0).length := ⟨_, rfl⟩
            rw [← hN] at hownA HST hn
            clear HSTEP hsv hN hG1 hlb1 hlb2 hbD hbA HI1
            have CW : ∀ W, WSees wp m lb l W → W.cell? ⟨wp, 6, none⟩ = some (.map (some m)) := fun W h => h.1
            have CL0 : ∀ W, WSees wp m lb l W → W.cell? ⟨lb, 0, none⟩ = some (.int .i64 l.f0) := fun W h => h.2.1
            have CL1 : ∀ W, WSees wp m lb l W → W.cell? ⟨lb, 1, none⟩ = some (.int .i64 l.f1) := fun W h => h.2.2.1
            have CL2 : ∀ W, WSees wp m lb l W → W.cell? ⟨lb, 2, none⟩ = some (.int .i64 l.f2.f0) := fun W h => h.2.2.2.1
            have CL3 : ∀ W, WSees wp m lb l W → W.cell? ⟨lb, 3, none⟩ = some (.int .i64 l.f2.f1) := fun W h => h.2.2.2.2.1
            have CL4 : ∀ W, WSees wp m lb l W → W.cell? ⟨lb, 4, none⟩ = some (.int .i64 l.f3) := fun W h => h.2.2.2.2.2.1
            have CL5 : ∀ W, WSees wp m lb l W → W.cell? ⟨lb, 5, none⟩ = some (.bool l.f4) := fun W h => h.2.2.2.2.2.2
            go_region_held3 (fun W => WSees wp m lb l W) (first | assumption) (first | (refine step_append_lies _ rfl (.tmp 52) (.tmp 54) 30 rfl w.heap.size 88 i0 _ 6 48 Try.underlying30 hi0 hz0 hz1 hz2 rfl (by decide) sv N (linksCs (grp (ls.take i) l.f0)) (by go_simp) hownA.out ⟨W1.heap.size, 0, none⟩ 1 1 [.int .i64 l.f0, .int .i64 l.f1, .int .i64 l.f2.f0, .int .i64 l.f2.f1, .int .i64 l.f3, .bool l.f4] (by go_simp) rfl hnewsA.out (by simp [Value.oneCell']) (by decide) (by unfold maxLen; omega) (by omega) hbase.out _ rfl ?_; intro g cap w2 hown2 hg2 hor hlt2; obtain ⟨w3, hst, hS2, hS3, hI3⟩ := HST.out g cap w2 hown2 hg2 hor hlt2; clear hown2 hg2 hor hlt2; have HI3 := Aside0.mk hI3; clear hI3))
            all_goals
              clear CW CL0 CL1 CL2 CL3 CL4 CL5 hS0 hS1 hS2 hS3 hst hLD hLA hnewsA hownA hbase HST
              go_wp2
              go_roundw
              case rel => exact ⟨i + 1, by go_num, by omega, HI3⟩
              case measure => simp [intOf]; omega
          · obtain rfl : i = ls.length := by omega
            clear hile hgo
            go_wp2
            go_ret2
            refine ⟨HI.out.kp, .inr ⟨?_, wp, rfl, HI.out.wpge, ?_⟩⟩
            · unfold startE
              rw [if_pos HN.out.1, if_pos HN.out.2, if_pos HT.out]
            · obtain ⟨h1, ⟨L, cl, h2⟩, h3, h4, h5⟩ := HI.out
              rw [List.take_length] at h2
              exact ⟨m, L, cl, h1, h5, h2⟩
      · have hT1 : PB.spread_timed.f lo hi = some false := by rw [timed_eq, decide_eq_false h2]
        have HT1 := Aside0.mk hT1
        have HT : Aside0 (startE nn uu ls sn lo hi = 3) := ⟨by unfold startE; rw [if_pos HN.out.1, if_pos HN.out.2, if_neg h2]⟩
        clear h2 hT1
        go_wp2_with (first | (go_at_call 29; refine ((PB.spread_Check.calls k nn uu A c ls _ _ (Kd.C_below HR.out HB2.out) HC.out HK.out).mono ?_); rintro e w3 ⟨rfl, hb⟩; have B3 := Aside0.mk hb; have D0 : w3.cell? ⟨bs, 0, none⟩ = some (.int .i64 sn) := blk_cell (HCC.out _ hb).2 0; have D1 : w3.cell? ⟨bn, 0, none⟩ = some (.int .i64 nn) := blk_cell (HCC.out _ hb).1 0; clear hb C0 C1 C2) | (go_at_call 72; refine ((PB.spread_within.calls _ _ _ _ _ HN1.out).mono ?_); rintro e w4 ⟨rfl, hb⟩; have B4 := Aside0.mk (below_step B3.out hb.below); have D2 : w4.cell? ⟨bs, 1, none⟩ = some (.int .i64 lo) := blk_cell (HCC.out _ B4.out).2 1; have D3 : w4.cell? ⟨bs, 2, none⟩ = some (.int .i64 hi) := blk_cell (HCC.out _ B4.out).2 2; clear hb D0 D1) | (go_at_call 87; refine ((PB.spread_timed.calls _ _ _ _ HT1.out).mono ?_); rintro e w5 ⟨rfl, hb⟩; have B5 := Aside0.mk (below_step B4.out hb); clear hb D2 D3; try (have C0 : w5.cell? ⟨bn, 0, none⟩ = some (.int .i64 nn) := blk_cell (HCC.out _ B5.out).1 0; have C1 : w5.cell? ⟨bn, 1, none⟩ = some (.int .i64 uu) := blk_cell (HCC.out _ B5.out).1 1; have C2 : w5.cell? ⟨bn, 2, none⟩ = some (.slice A ls.length c) := blk_cell (HCC.out _ B5.out).1 2; have D0 : w5.cell? ⟨bs, 0, none⟩ = some (.int .i64 sn) := blk_cell (HCC.out _ B5.out).2 0; have D1 : w5.cell? ⟨bs, 1, none⟩ = some (.int .i64 lo) := blk_cell (HCC.out _ B5.out).2 1; have D2 : w5.cell? ⟨bs, 2, none⟩ = some (.int .i64 hi) := blk_cell (HCC.out _ B5.out).2 2)))
        go_ret2
        exact ⟨below_step HB2.out B5.out, .inl ⟨by rw [HT.out]; decide, by rw [HT.out]; rfl⟩⟩
    · have hN1 : PB.spread_within.f sn 0 (nn - 1) = some false := by rw [within_eq, decide_eq_false h1]
      have HN1 := Aside0.mk hN1
      have HN : Aside0 (startE nn uu ls sn lo hi = 4) := ⟨by unfold startE; rw [if_pos h0, if_neg h1]⟩
      have HT1 : Aside0 (PB.spread_timed.f lo hi = PB.spread_timed.f lo hi) := ⟨rfl⟩
      clear h0 h1 hN1
      go_wp2_with (first | (go_at_call 29; refine ((PB.spread_Check.calls k nn uu A c ls _ _ (Kd.C_below HR.out HB2.out) HC.out HK.out).mono ?_); rintro e w3 ⟨rfl, hb⟩; have B3 := Aside0.mk hb; have D0 : w3.cell? ⟨bs, 0, none⟩ = some (.int .i64 sn) := blk_cell (HCC.out _ hb).2 0; have D1 : w3.cell? ⟨bn, 0, none⟩ = some (.int .i64 nn) := blk_cell (HCC.out _ hb).1 0; clear hb C0 C1 C2) | (go_at_call 72; refine ((PB.spread_within.calls _ _ _ _ _ HN1.out).mono ?_); rintro e w4 ⟨rfl, hb⟩; have B4 := Aside0.mk (below_step B3.out hb.below); have D2 : w4.cell? ⟨bs, 1, none⟩ = some (.int .i64 lo) := blk_cell (HCC.out _ B4.out).2 1; have D3 : w4.cell? ⟨bs, 2, none⟩ = some (.int .i64 hi) := blk_cell (HCC.out _ B4.out).2 2; clear hb D0 D1) | (go_at_call 87; refine ((PB.spread_timed.calls _ _ _ _ HT1.out).mono ?_); rintro e w5 ⟨rfl, hb⟩; have B5 := Aside0.mk (below_step B4.out hb); clear hb D2 D3; try (have C0 : w5.cell? ⟨bn, 0, none⟩ = some (.int .i64 nn) := blk_cell (HCC.out _ B5.out).1 0; have C1 : w5.cell? ⟨bn, 1, none⟩ = some (.int .i64 uu) := blk_cell (HCC.out _ B5.out).1 1; have C2 : w5.cell? ⟨bn, 2, none⟩ = some (.slice A ls.length c) := blk_cell (HCC.out _ B5.out).1 2; have D0 : w5.cell? ⟨bs, 0, none⟩ = some (.int .i64 sn) := blk_cell (HCC.out _ B5.out).2 0; have D1 : w5.cell? ⟨bs, 1, none⟩ = some (.int .i64 lo) := blk_cell (HCC.out _ B5.out).2 1; have D2 : w5.cell? ⟨bs, 2, none⟩ = some (.int .i64 hi) := blk_cell (HCC.out _ B5.out).2 2)))
      go_ret2
      exact ⟨below_step HB2.out B4.out, .inl ⟨by rw [HN.out]; decide, by rw [HN.out]; rfl⟩⟩
  · have HN : Aside0 (startE nn uu ls sn lo hi = checkE nn uu ls ∧ checkE nn uu ls ≠ 0) := ⟨by unfold startE; rw [if_neg h0], h0⟩
    have hd : (checkE nn uu ls != 0) = true := by simpa using h0
    clear h0
    go_wp2_with (first | (go_at_call 29; refine ((PB.spread_Check.calls k nn uu A c ls _ _ (Kd.C_below HR.out HB2.out) HC.out HK.out).mono ?_); rintro e w3 ⟨rfl, hb⟩))
    go_ret2
    exact ⟨below_step HB2.out hb, .inl ⟨by rw [HN.out.1]; exact HN.out.2, by rw [HN.out.1]; rfl⟩⟩
end Go.Proofs.Ytgmglpnoppcnkaa
end
section
namespace Go.Proofs.Ytgmglpnoppcnkaa
open Go.RowKit
set_option linter.unusedVariables false
/-- api.Never -/
def NV : Int := 1099511627776
section
variable (ls : List Lk) (ue : Lk → Option Int) (sn b : Int)
/-- There is a walk of links that can be used, from the start, at whose end it is t. -/
inductive Wk : Int → Int → Prop
  | start : Wk sn b
  | step {u t : Int} {l : Lk} {d : Int} : Wk u t → l ∈ ls → l.f0 = u → ue l = some d → Wk l.f1 (t + d)
/-- What the search is given. -/
structure EOk (nn : Nat) : Prop where
  n64 : nn ≤ 64
  sn : 0 ≤ sn ∧ sn < nn
  b : 0 ≤ b ∧ b ≤ 1000000000
  ends : ∀ l ∈ ls, (0 ≤ l.f0 ∧ l.f0 < nn) ∧ (0 ≤ l.f1 ∧ l.f1 < nn)
  d : ∀ l ∈ ls, ∀ d, ue l = some d → 0 ≤ d ∧ d ≤ 1000000000
/-- out has the least times. -/
structure LeastAt (nn : Nat) (o : List Int) : Prop where
  len : o.length = nn
  at_ : ∀ v : Nat, v < nn → (o.getD v NV < NV ∧ Wk ls ue sn b v (o.getD v NV) ∧ ∀ t, Wk ls ue sn b v t → o.getD v NV ≤ t) ∨ (o.getD v NV = NV ∧ ∀ t, ¬ Wk ls ue sn b v t)
end
section
variable {ls : List Lk} {ue : Lk → Option Int} {sn b : Int} {nn : Nat}
theorem LeastAt.unique {o o' : List Int} (h : LeastAt ls ue sn b nn o) (h' : LeastAt ls ue sn b nn o') : o = o' := by
  refine List.ext_getElem (by rw [h.len, h'.len]) fun i h1 h2 => ?_
  have e1 : o.getD i NV = o[i] := by simp [List.getD_eq_getElem?_getD, List.getElem?_eq_getElem h1]
  have e2 : o'.getD i NV = o'[i] := by simp [List.getD_eq_getElem?_getD, List.getElem?_eq_getElem h2]
  have a := h.at_ i (by rw [← h.len]; exact h1)
  have a' := h'.at_ i (by rw [← h.len]; exact h1)
  rw [e1] at a
  rw [e2] at a'
  rcases a with ⟨a1, a2, a3⟩ | ⟨a1, a2⟩ <;> rcases a' with ⟨b1, b2, b3⟩ | ⟨b1, b2⟩
  · have := a3 _ b2; have := b3 _ a2; omega
  · exact absurd a2 (b2 _)
  · exact absurd b2 (a2 _)
  · rw [a1, b1]
def oat (o : List Int) (v : Int) : Int := o.getD v.toNat NV
/-- How many nodes are settled. -/
def setd (o : List Int) : Nat := o.countP (fun x => decide (x < NV))
theorem setd_le (o : List Int) : setd o ≤ o.length := List.countP_le_length
theorem oat_set (o : List Int) (v u t : Int) (h0 : 0 ≤ v) (h1 : v < o.length) (h2 : 0 ≤ u) : oat (o.set v.toNat t) u = if u = v then t else oat o u := by
  unfold oat
  simp only [List.getD_eq_getElem?_getD, List.getElem?_set]
  by_cases h : u = v
  · subst h
    rw [if_pos rfl, if_pos rfl, if_pos (by omega)]
    rfl
  · rw [if_neg h, if_neg (by omega)]
theorem setd_set (o : List Int) (v t : Int) (h0 : 0 ≤ v) (h1 : v < o.length) (hn : oat o v = NV) (ht : t < NV) : setd (o.set v.toNat t) = setd o + 1 := by
  have hv : v.toNat < o.length := by omega
  unfold setd
  rw [List.countP_set hv]
  have e : o[v.toNat] = NV := by rw [← hn]; simp [oat, List.getD_eq_getElem?_getD, List.getElem?_eq_getElem hv]
  rw [e]
  simp [ht]
/-- What the search keeps true. -/
structure DInv (ls : List Lk) (ue : Lk → Option Int) (sn b : Int) (nn : Nat) (o : List Int) (h : List Vis) : Prop where
  len : o.length = nn
  ok : HeapOk h
  walk : ∀ x ∈ h, (0 ≤ x.1 ∧ x.1 < nn) ∧ Wk ls ue sn b x.1 x.2
  owalk : ∀ v : Int, 0 ≤ v → v < nn → oat o v = NV ∨ oat o v < NV ∧ Wk ls ue sn b v (oat o v)
  mono : ∀ v : Int, 0 ≤ v → v < nn → oat o v < NV → ∀ x ∈ h, oat o v ≤ x.2
  feas : ∀ l ∈ ls, ∀ d, ue l = some d → oat o l.f0 < NV → oat o l.f1 ≤ oat o l.f0 + d ∨ ∃ x ∈ h, x.1 = l.f1 ∧ x.2 ≤ oat o l.f0 + d
  beg : oat o sn ≤ b ∨ ∃ x ∈ h, x.1 = sn ∧ x.2 ≤ b
  hb : ∀ x ∈ h, x.2 ≤ 1000000000 * (1 + (setd o : Int))
  ob : ∀ v : Int, 0 ≤ v → v < nn → oat o v < NV → oat o v ≤ 1000000000 * (setd o : Int)
  pos : ∀ x ∈ h, 0 ≤ x.2
theorem oat_rep (nn : Nat) (v : Int) (h0 : 0 ≤ v) (h1 : v < nn) : oat (List.replicate nn NV) v = NV := by
  simp only [oat, List.getD_eq_getElem?_getD, List.getElem?_replicate]
  rw [if_pos (by omega)]
  rfl
theorem setd_rep (nn : Nat) : setd (List.replicate nn NV) = 0 := by
  unfold setd
  rw [List.countP_eq_zero]
  intro a ha
  rw [List.eq_of_mem_replicate ha]
  decide
theorem DInv.init (E : EOk ls ue sn b nn) : DInv ls ue sn b nn (List.replicate nn NV) [(sn, b)] := by
  have hs := E.sn
  have hb := E.b
  refine ⟨by simp, ?_, ?_, ?_, ?_, ?_, ?_, ?_, ?_, ?_⟩
  · intro i hi h; simp at h; omega
  · intro x hx
    rw [List.mem_singleton.1 hx]
    exact ⟨hs, .start⟩
  · intro v h0 h1; exact .inl (oat_rep nn v h0 h1)
  · intro v h0 h1 h; rw [oat_rep nn v h0 h1] at h; unfold NV at h; omega
  · intro l hl d hd h
    rw [oat_rep nn _ (E.ends l hl).1.1 (E.ends l hl).1.2] at h; unfold NV at h; omega
  · exact .inr ⟨_, List.mem_singleton.2 rfl, rfl, Int.le_refl _⟩
  · intro x hx
    rw [List.mem_singleton.1 hx, setd_rep]
    show b ≤ _
    omega
  · intro v h0 h1 h; rw [oat_rep nn v h0 h1] at h; unfold NV at h; omega
  · intro x hx
    rw [List.mem_singleton.1 hx]
    exact hb.1
theorem vat_mem (h : List Vis) (h0 : 0 < h.length) : vat h 0 ∈ h := by
  cases h with
  | nil => simp at h0
  | cons x r => simp [vat]
theorem rest_mem {h : List Vis} (hok : HeapOk h) (h0 : 0 < h.length) (x : Vis) : x ∈ h ↔ x = vat h 0 ∨ x ∈ takeRest h := by
  have := (take_all h hok h0).2.1.mem_iff (a := x)
  rw [← this, List.mem_cons]
theorem min_le {h : List Vis} (hok : HeapOk h) (x : Vis) (hx : x ∈ h) : (vat h 0).2 ≤ x.2 := by
  obtain ⟨i, hi, e⟩ := List.getElem_of_mem hx
  have := hok.min i hi
  rw [show vat h i = x by simp [vat, List.getD_eq_getElem?_getD, List.getElem?_eq_getElem hi, e]] at this
  exact this
/-- The least element's node has an earlier time: it is dropped. -/
theorem DInv.skip (E : EOk ls ue sn b nn) {o : List Int} {h : List Vis} (D : DInv ls ue sn b nn o h) (h0 : 0 < h.length) (hle : oat o (vat h 0).1 ≤ (vat h 0).2) : DInv ls ue sn b nn o (takeRest h) := by
  have hm := rest_mem D.ok h0
  have hsub : ∀ x ∈ takeRest h, x ∈ h := fun x hx => (hm x).2 (.inr hx)
  refine ⟨D.len, (take_all h D.ok h0).1, fun x hx => D.walk x (hsub x hx), D.owalk, fun v a c d x hx => D.mono v a c d x (hsub x hx), ?_, ?_, fun x hx => D.hb x (hsub x hx), D.ob, fun x hx => D.pos x (hsub x hx)⟩
  · intro l hl d hd hlt
    rcases D.feas l hl d hd hlt with a | ⟨x, hx, e1, e2⟩
    · exact .inl a
    · rcases (hm x).1 hx with rfl | hx
      · left; rw [← e1]; omega
      · exact .inr ⟨x, hx, e1, e2⟩
  · rcases D.beg with a | ⟨x, hx, e1, e2⟩
    · exact .inl a
    · rcases (hm x).1 hx with rfl | hx
      · left; rw [← e1]; omega
      · exact .inr ⟨x, hx, e1, e2⟩
/-- The pushes of a node's links. -/
def pushAll (ue : Lk → Option Int) (t : Int) : List Vis → List Lk → List Vis
  | h, [] => h
  | h, l :: r => pushAll ue t (match ue l with | some d => siftUp (h ++ [(l.f1, t + d)]) h.length | none => h) r
theorem pushAll_snoc (ue : Lk → Option Int) (t : Int) (g : List Lk) : ∀ (h : List Vis) (l : Lk), pushAll ue t h (g ++ [l]) = match ue l with | some d => siftUp (pushAll ue t h g ++ [(l.f1, t + d)]) (pushAll ue t h g).length | none => pushAll ue t h g := by
  induction g with
  | nil => intro h l; rfl
  | cons x r ih => intro h l; rw [List.cons_append, pushAll, ih, pushAll]
theorem pushAll_ok (ue : Lk → Option Int) (t : Int) (g : List Lk) : ∀ h, HeapOk h → HeapOk (pushAll ue t h g) := by
  induction g with
  | nil => intro h hh; exact hh
  | cons x r ih =>
    intro h hh
    rw [pushAll]
    apply ih
    split
    · exact put_ok h _ hh
    · exact hh
theorem pushAll_len (ue : Lk → Option Int) (t : Int) (g : List Lk) : ∀ h, (pushAll ue t h g).length ≤ h.length + g.length := by
  induction g with
  | nil => intro h; exact Nat.le_refl _
  | cons x r ih =>
    intro h
    rw [pushAll]
    refine Nat.le_trans (ih _) ?_
    split
    · have := (put_perm h (x.f1, t + (by assumption))).length_eq
      simp only [List.length_cons] at this ⊢
      omega
    · simp only [List.length_cons]; omega
theorem pushAll_mem (ue : Lk → Option Int) (t : Int) (g : List Lk) : ∀ h x, x ∈ pushAll ue t h g ↔ x ∈ h ∨ ∃ l ∈ g, ∃ d, ue l = some d ∧ x = (l.f1, t + d) := by
  induction g with
  | nil => intro h x; simp [pushAll]
  | cons y r ih =>
    intro h x
    rw [pushAll, ih]
    cases e : ue y with
    | none =>
      constructor
      · rintro (a | ⟨l, hl, d, hd, rfl⟩)
        · exact .inl a
        · exact .inr ⟨l, List.mem_cons_of_mem _ hl, d, hd, rfl⟩
      · rintro (a | ⟨l, hl, d, hd, rfl⟩)
        · exact .inl a
        · rcases List.mem_cons.1 hl with rfl | hl
          · rw [e] at hd; cases hd
          · exact .inr ⟨l, hl, d, hd, rfl⟩
    | some d0 =>
      rw [(put_perm h (y.f1, t + d0)).mem_iff, List.mem_cons]
      constructor
      · rintro ((rfl | a) | ⟨l, hl, d, hd, rfl⟩)
        · exact .inr ⟨y, List.mem_cons_self, d0, e, rfl⟩
        · exact .inl a
        · exact .inr ⟨l, List.mem_cons_of_mem _ hl, d, hd, rfl⟩
      · rintro (a | ⟨l, hl, d, hd, rfl⟩)
        · exact .inl (.inr a)
        · rcases List.mem_cons.1 hl with rfl | hl
          · rw [e] at hd; cases hd; exact .inl (.inl rfl)
          · exact .inr ⟨l, hl, d, hd, rfl⟩
theorem grp_mem (ls : List Lk) (k : Int) (l : Lk) : l ∈ grp ls k ↔ l ∈ ls ∧ l.f0 = k := by simp [grp]
/-- A node is settled. -/
theorem DInv.settle (E : EOk ls ue sn b nn) {o : List Int} {h : List Vis} (D : DInv ls ue sn b nn o h) (h0 : 0 < h.length) (hlt : (vat h 0).2 < oat o (vat h 0).1) :
    oat o (vat h 0).1 = NV ∧ setd (o.set (vat h 0).1.toNat (vat h 0).2) = setd o + 1 ∧ setd o < nn ∧
    DInv ls ue sn b nn (o.set (vat h 0).1.toNat (vat h 0).2) (pushAll ue (vat h 0).2 (takeRest h) (grp ls (vat h 0).1)) := by
  have hmem := vat_mem h h0
  have hx := D.walk _ hmem
  have hmin := fun x hx => min_le D.ok x hx
  have hm := rest_mem D.ok h0
  have hhb := D.hb _ hmem
  have hpos := D.pos _ hmem
  have hmono := fun u a c e => D.mono u a c e _ hmem
  have htk := (take_all h D.ok h0).1
  obtain ⟨v, hv⟩ : ∃ v, v = (vat h 0).1 := ⟨_, rfl⟩
  obtain ⟨t, ht⟩ : ∃ t, t = (vat h 0).2 := ⟨_, rfl⟩
  have hvt : vat h 0 = (v, t) := by rw [hv, ht]
  rw [← hv, ← ht] at hlt hx
  rw [← ht] at hhb hpos
  simp only [← ht] at hmin hmono
  rw [← hv, ← ht]
  have hsl := setd_le o
  rw [D.len] at hsl
  have h64 := E.n64
  have htN : t < NV := by unfold NV; omega
  have hvN : oat o v = NV := by
    rcases D.owalk v hx.1.1 hx.1.2 with e | ⟨e, _⟩
    · exact e
    · have := hmono v hx.1.1 hx.1.2 e; omega
  have hvl : v < o.length := by rw [D.len]; exact hx.1.2
  have hs := setd_set o v t hx.1.1 hvl hvN htN
  have hs2 := setd_le (o.set v.toNat t)
  rw [hs, List.length_set, D.len] at hs2
  have hset : ∀ u : Int, 0 ≤ u → oat (o.set v.toNat t) u = if u = v then t else oat o u := fun u hu => oat_set o v u t hx.1.1 hvl hu
  have hpm := fun x => pushAll_mem ue t (grp ls v) (takeRest h) x
  have hcase : ∀ x, x ∈ pushAll ue t (takeRest h) (grp ls v) → (x ∈ h) ∨ ∃ l, l ∈ ls ∧ l.f0 = v ∧ ∃ d, ue l = some d ∧ (0 ≤ d ∧ d ≤ 1000000000) ∧ x = (l.f1, t + d) := by
    intro x hx'
    rcases (hpm x).1 hx' with a | ⟨l, hl, d, hd, e⟩
    · exact .inl ((hm x).2 (.inr a))
    · have := (grp_mem ls v l).1 hl
      exact .inr ⟨l, this.1, this.2, d, hd, E.d l this.1 d hd, e⟩
  refine ⟨hvN, hs, by omega, by rw [List.length_set]; exact D.len, pushAll_ok ue t _ _ htk, ?_, ?_, ?_, ?_, ?_, ?_, ?_, ?_⟩
  · intro x hx'
    rcases hcase x hx' with a | ⟨l, hl, e1, d, hd, hdb, rfl⟩
    · exact D.walk x a
    · exact ⟨(E.ends l hl).2, .step hx.2 hl e1 hd⟩
  · intro u u0 u1
    rw [hset u u0]
    by_cases hu : u = v
    · rw [if_pos hu]; exact .inr ⟨htN, by rw [hu]; exact hx.2⟩
    · rw [if_neg hu]; exact D.owalk u u0 u1
  · intro u u0 u1 hl x hx'
    rw [hset u u0] at hl ⊢
    by_cases hu : u = v
    · rw [if_pos hu]
      rcases hcase x hx' with a | ⟨l, hl, e1, d, hd, hdb, rfl⟩
      · exact hmin x a
      · show t ≤ t + d; omega
    · rw [if_neg hu] at hl ⊢
      rcases hcase x hx' with a | ⟨l, hl', e1, d, hd, hdb, rfl⟩
      · exact D.mono u u0 u1 hl x a
      · have := hmono u u0 u1 hl
        show oat o u ≤ t + d; omega
  · intro l hl d hd hlt'
    have hdb := E.d l hl d hd
    rw [hset _ (E.ends l hl).1.1] at hlt' ⊢
    by_cases h1 : l.f0 = v
    · right
      refine ⟨(l.f1, t + d), (hpm _).2 (.inr ⟨l, (grp_mem ls v l).2 ⟨hl, h1⟩, d, hd, rfl⟩), rfl, ?_⟩
      rw [if_pos h1]
      exact Int.le_refl _
    · rw [if_neg h1] at hlt' ⊢
      rw [hset _ (E.ends l hl).2.1]
      rcases D.feas l hl d hd hlt' with a | ⟨x, hx', e1, e2⟩
      · left
        by_cases h2 : l.f1 = v
        · rw [if_pos h2]; rw [h2, hvN] at a; omega
        · rw [if_neg h2]; exact a
      · rcases (hm x).1 hx' with rfl | hx'
        · left
          rw [hvt] at e1 e2
          rw [if_pos e1.symm]
          exact e2
        · exact .inr ⟨x, (hpm x).2 (.inl hx'), e1, e2⟩
  · rw [hset _ E.sn.1]
    rcases D.beg with a | ⟨x, hx', e1, e2⟩
    · left
      by_cases h2 : sn = v
      · rw [if_pos h2]; rw [h2, hvN] at a; omega
      · rw [if_neg h2]; exact a
    · rcases (hm x).1 hx' with rfl | hx'
      · left
        rw [hvt] at e1 e2
        rw [if_pos e1.symm]
        exact e2
      · exact .inr ⟨x, (hpm x).2 (.inl hx'), e1, e2⟩
  · intro x hx'
    rw [hs]
    rcases hcase x hx' with a | ⟨l, hl', e1, d, hd, hdb, rfl⟩
    · have := D.hb x a; omega
    · show t + d ≤ _; omega
  · intro u u0 u1 hl
    rw [hset u u0] at hl ⊢
    rw [hs]
    by_cases hu : u = v
    · rw [if_pos hu]; omega
    · rw [if_neg hu] at hl ⊢; have := D.ob u u0 u1 hl; omega
  · intro x hx'
    rcases hcase x hx' with a | ⟨l, hl', e1, d, hd, hdb, rfl⟩
    · exact D.pos x a
    · show 0 ≤ t + d; omega
/-- The heap is empty: the times are the least ones. -/
theorem DInv.done (E : EOk ls ue sn b nn) {o : List Int} (D : DInv ls ue sn b nn o []) : LeastAt ls ue sn b nn o := by
  have hsl := setd_le o
  rw [D.len] at hsl
  have h64 := E.n64
  have hb := E.b
  have key : ∀ v t, Wk ls ue sn b v t → (0 ≤ v ∧ v < nn) ∧ oat o v < NV ∧ oat o v ≤ t := by
    intro v t hw
    induction hw with
    | start =>
      rcases D.beg with a | ⟨x, hx, _⟩
      · exact ⟨E.sn, by unfold NV; omega, a⟩
      · cases hx
    | step hw hl e hd ih =>
      rename_i u t l d
      obtain ⟨i1, i2, i3⟩ := ih
      rw [← e] at i1 i2 i3
      have hdb := E.d l hl d hd
      have hob := D.ob _ i1.1 i1.2 i2
      rcases D.feas l hl d hd i2 with a | ⟨x, hx, _⟩
      · refine ⟨(E.ends l hl).2, ?_, by omega⟩
        unfold NV; omega
      · cases hx
  refine ⟨D.len, fun v hv => ?_⟩
  have e : o.getD v NV = oat o (v : Int) := by simp [oat]
  rw [e]
  rcases D.owalk v (by omega) (by omega) with a | ⟨a, hw⟩
  · right
    refine ⟨a, fun t hw => ?_⟩
    have := (key _ _ hw).2.1
    omega
  · exact .inl ⟨a, hw, fun t hw' => (key _ _ hw').2.2⟩
end
end Go.Proofs.Ytgmglpnoppcnkaa
end
