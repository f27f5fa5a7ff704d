/- first and last: the bounds of the times. -/
import Derived.Test.YtgmglpnoppcnkaaH6
namespace Go.Proofs.Ytgmglpnoppcnkaa
open Go.RowKit Go.Proofs.YtgmglpnoppcnkaaW.PrintWords Go.Proofs.YtgmglpnoppcnkaaW.PrintLast Go.Proofs.YtgmglpnoppcnkaaW.PrintMore
set_option linter.unusedVariables false
set_option linter.unusedSimpArgs false
set_option maxRecDepth 100000

def ueLo (s : List Bool) : Lk → Option Int := ueOf (fun l => l.f2.f0) (fun l => !hasB s l.f3)
def ueHi (s : List Bool) : Lk → Option Int := ueOf (fun l => l.f2.f1) (fun l => l.f4 && !hasB s l.f3)
/-- A network and a start without an error. -/
structure StOk (nn : Nat) (uu : Int) (ls : List Lk) (sn lo hi : Int) : Prop where
  net : NetOk nn uu ls
  sn0 : 0 ≤ sn
  sn1 : sn < nn
  t : timedP lo hi
theorem startE_ok {nn uu : Int} {ls : List Lk} {sn lo hi : Int} (h : startE nn uu ls sn lo hi = 0) : ∃ n : Nat, nn = n ∧ StOk n uu ls sn lo hi := by
  unfold startE at h
  split at h
  · rename_i h0
    have hn := checkE_ok h0
    obtain ⟨n, rfl⟩ := Int.eq_ofNat_of_zero_le (show 0 ≤ nn by have := hn.n1; omega)
    split at h
    · rename_i h1
      split at h
      · rename_i h2
        exact ⟨n, rfl, hn, h1.1, by omega, h2⟩
      · omega
    · omega
  · rename_i h0; exact absurd h h0
theorem StOk.lo {nn : Nat} {uu : Int} {ls : List Lk} {sn lo hi : Int} (h : StOk nn uu ls sn lo hi) (s : List Bool) : EOk ls (ueLo s) sn lo nn := by
  have h2 := h.net.n2
  have ht := h.t
  unfold timedP at ht
  refine ⟨by omega, ⟨h.sn0, h.sn1⟩, by omega, fun l hl => ⟨(h.net.links l hl).1, (h.net.links l hl).2.1⟩, fun l hl d hd => ?_⟩
  unfold ueLo ueOf at hd
  split at hd
  · simp only [Option.some.injEq] at hd
    have := (h.net.links l hl).2.2.2.2
    unfold timedP at this
    omega
  · cases hd
theorem StOk.hi {nn : Nat} {uu : Int} {ls : List Lk} {sn lo hi : Int} (h : StOk nn uu ls sn lo hi) (s : List Bool) : EOk ls (ueHi s) sn hi nn := by
  have h2 := h.net.n2
  have ht := h.t
  unfold timedP at ht
  refine ⟨by omega, ⟨h.sn0, h.sn1⟩, by omega, fun l hl => ⟨(h.net.links l hl).1, (h.net.links l hl).2.1⟩, fun l hl d hd => ?_⟩
  unfold ueHi ueOf at hd
  split at hd
  · simp only [Option.some.injEq] at hd
    have := (h.net.links l hl).2.2.2.2
    unfold timedP at this
    omega
  · cases hd
theorem callFunc_enter {f : FuncId} {fn : Func} {c : Code} (hf : Try.prog.funcs[f]? = some fn) (hname : (fn.name == "runtime.NumGoroutine") = false) (hb : fn.body = some c) (args : Array Value) (w : World) :
    (callFunc f args).run Try.prog w = .ok (.enter f args) w := by
  have h1 : ¬ fn.name = "runtime.NumGoroutine" := by simpa using hname
  simp [callFunc, hf, h1, hb]

/-- What first and last return: a row of least times. -/
def RowPost (w : World) (nn : Nat) (ls : List Lk) (ue : Lk → Option Int) (sn b : Int) (e : Ending) (w' : World) : Prop :=
  ∃ g o, e = .returned (.slice (some ⟨g, 0, none⟩) nn nn) ∧ w.heap.size ≤ g ∧ w'.heap[g]? = some (.cells (intsCs o) 3 (0, 0)) ∧ LeastAt ls ue sn b nn o ∧ Below w.heap.size w w'

set_option maxHeartbeats 1000000 in
theorem first_calls (wp B nn : Nat) (uu : Int) (sv0 : Value) (sn lo hi : Int) (ls : List Lk) (s : List Bool) (w : World) (hw : WebAt w B wp nn uu sv0 sn lo hi ls) (hs : s.length = 20) (hO : StOk nn uu ls sn lo hi) :
    Calls Try.prog 56 #[.pointer (some ⟨wp, 0, none⟩), .agg (setCs s).toArray] w (RowPost w nn ls (ueLo s) sn lo) := by
  have HW := Aside0.mk hw
  have HO := Aside0.mk hO
  have HS := Aside0.mk hs
  clear hw hO hs
  go_enter Try.func56, Try.ntmps56
  go_wp2_with ((with_reducible refine gate_dst (N := 3) rfl ?_); refine hold ?_)
  refine box_event rfl (N := 3) rfl (cs := (setCs s).toArray) (t := 144) (by go_simp) ?_
  intro bs hbs w1 hb1 hB1
  have HB1 := Aside0.mk hB1
  have hW1 := HW.out.below hB1
  have HW1 := Aside0.mk hW1
  obtain ⟨h0, m, L, cl, hweb, -, -⟩ := hW1
  have c0 : w1.cell? ⟨wp, 4, none⟩ = some (.int .i64 lo) := blk_cell hweb 4
  have HU : Aside0 (UsedAt w1 105 (.pointer (some ⟨bs, 0, none⟩)) ls (fun l => l.f2.f0) (fun l => !hasB s l.f3)) := by
    refine ⟨⟨callFunc_enter Try.func105 (by kernel_rfl) rfl, fun W hW l hl => ?_⟩⟩
    have hbW := blk_below hb1 hW
    have hu := (HO.out.net.links l hl).2.2.1
    have h20 := HO.out.net.u2
    refine first1_calls s l bs W HS.out (by omega) (by omega) ?_ (blk_lt hbW)
    intro j v hj
    rw [Nat.zero_add, blk_cell hbW j]
    simpa using hj
  clear hb1 hB1 hweb hbs h0
  have hn1 : 1 ≤ nn := by have := HO.out.net.n1; omega
  go_wp2_with (first | (go_at_call 104; refine (least_calls wp B nn uu sv0 sn lo hi ls lo 105 (.pointer (some ⟨bs, 0, none⟩)) (fun l => l.f2.f0) (fun l => !hasB s l.f3) _ HW1.out (HO.out.lo s) hn1 HO.out.net.len HU.out).mono ?_; rintro e w2 ⟨g, o, rfl, hg, hgb, hlo, hb2⟩; have HP := Aside0.mk (And.intro hg (And.intro hgb (And.intro hlo hb2))); clear hg hgb hlo hb2))
  go_ret
  obtain ⟨hg, hgb, hlo, hb2⟩ := HP.out
  exact ⟨g, o, rfl, by have := HB1.out.size; omega, hgb, hlo, below_step HB1.out hb2⟩

set_option maxHeartbeats 1000000 in
theorem last_calls (wp B nn : Nat) (uu : Int) (sv0 : Value) (sn lo hi : Int) (ls : List Lk) (s : List Bool) (w : World) (hw : WebAt w B wp nn uu sv0 sn lo hi ls) (hs : s.length = 20) (hO : StOk nn uu ls sn lo hi) :
    Calls Try.prog 74 #[.pointer (some ⟨wp, 0, none⟩), .agg (setCs s).toArray] w (RowPost w nn ls (ueHi s) sn hi) := by
  have HW := Aside0.mk hw
  have HO := Aside0.mk hO
  have HS := Aside0.mk hs
  clear hw hO hs
  go_enter Try.func74, Try.ntmps74
  go_wp2_with ((with_reducible refine gate_dst (N := 3) rfl ?_); refine hold ?_)
  refine box_event rfl (N := 3) rfl (cs := (setCs s).toArray) (t := 144) (by go_simp) ?_
  intro bs hbs w1 hb1 hB1
  have HB1 := Aside0.mk hB1
  have hW1 := HW.out.below hB1
  have HW1 := Aside0.mk hW1
  obtain ⟨h0, m, L, cl, hweb, -, -⟩ := hW1
  have c0 : w1.cell? ⟨wp, 5, none⟩ = some (.int .i64 hi) := blk_cell hweb 5
  have HU : Aside0 (UsedAt w1 116 (.pointer (some ⟨bs, 0, none⟩)) ls (fun l => l.f2.f1) (fun l => l.f4 && !hasB s l.f3)) := by
    refine ⟨⟨callFunc_enter Try.func116 (by kernel_rfl) rfl, fun W hW l hl => ?_⟩⟩
    have hbW := blk_below hb1 hW
    have hu := (HO.out.net.links l hl).2.2.1
    have h20 := HO.out.net.u2
    refine last1_calls s l bs W HS.out (by omega) (by omega) ?_ (blk_lt hbW)
    intro j v hj
    rw [Nat.zero_add, blk_cell hbW j]
    simpa using hj
  clear hb1 hB1 hweb hbs h0
  have hn1 : 1 ≤ nn := by have := HO.out.net.n1; omega
  go_wp2_with (first | (go_at_call 104; refine (least_calls wp B nn uu sv0 sn lo hi ls hi 116 (.pointer (some ⟨bs, 0, none⟩)) (fun l => l.f2.f1) (fun l => l.f4 && !hasB s l.f3) _ HW1.out (HO.out.hi s) hn1 HO.out.net.len HU.out).mono ?_; rintro e w2 ⟨g, o, rfl, hg, hgb, hlo, hb2⟩; have HP := Aside0.mk (And.intro hg (And.intro hgb (And.intro hlo hb2))); clear hg hgb hlo hb2))
  go_ret
  obtain ⟨hg, hgb, hlo, hb2⟩ := HP.out
  exact ⟨g, o, rfl, by have := HB1.out.size; omega, hgb, hlo, below_step HB1.out hb2⟩
end Go.Proofs.Ytgmglpnoppcnkaa
