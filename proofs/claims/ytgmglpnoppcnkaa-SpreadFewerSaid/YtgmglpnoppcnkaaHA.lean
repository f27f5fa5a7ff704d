/- asked. -/
import Derived.Test.YtgmglpnoppcnkaaH9
namespace Go.Proofs.Ytgmglpnoppcnkaa
open Go.RowKit Go.Proofs.YtgmglpnoppcnkaaW.PrintWords Go.Proofs.YtgmglpnoppcnkaaW.PrintLast Go.Proofs.YtgmglpnoppcnkaaW.PrintMore
set_option linter.unusedVariables false
set_option linter.unusedSimpArgs false
set_option maxRecDepth 100000

theorem cared_ok (nn uu : Int) (A : Option Addr) (c : Nat) (ls : List Lk) (sn lo hi : Int) (A2 : Option Addr) (c2 : Nat) (st : List Int) (f : Int) (w : World)
    (hr : Kd.C PB.k88 w A ls.length ls) (hc : ls.length ≤ c) (hr2 : Kd.C (Kd.int .i64) w A2 st.length st) (hc2 : st.length ≤ c2) (h : validE nn uu ls sn lo hi st f = 0) :
    Calls Try.prog 54 #[.agg #[.int .i64 nn, .int .i64 uu, .slice A ls.length c], .agg #[.int .i64 sn, .int .i64 lo, .int .i64 hi], .slice A2 st.length c2, .int .i64 f] w fun e w' => ∃ cb, e = .returned (.tuple #[.pointer (some ⟨cb, 0, none⟩), .int .i64 0]) ∧ Below w.heap.size w w' ∧ CareAt w' w.heap.size cb nn uu (.slice A ls.length c) sn lo hi ls st :=
  (cared_calls nn uu A c ls sn lo hi A2 c2 st f w hr hc hr2 hc2).mono fun e w' ⟨hb, hx⟩ => by
    rcases hx with ⟨hne, _⟩ | ⟨_, cb, he, hw⟩
    · exact absurd h hne
    · exact ⟨cb, he, hb, hw⟩
theorem cared_err (nn uu : Int) (A : Option Addr) (c : Nat) (ls : List Lk) (sn lo hi : Int) (A2 : Option Addr) (c2 : Nat) (st : List Int) (f : Int) (w : World)
    (hr : Kd.C PB.k88 w A ls.length ls) (hc : ls.length ≤ c) (hr2 : Kd.C (Kd.int .i64) w A2 st.length st) (hc2 : st.length ≤ c2) (h : validE nn uu ls sn lo hi st f ≠ 0) :
    Calls Try.prog 54 #[.agg #[.int .i64 nn, .int .i64 uu, .slice A ls.length c], .agg #[.int .i64 sn, .int .i64 lo, .int .i64 hi], .slice A2 st.length c2, .int .i64 f] w fun e w' => e = .returned (.tuple #[.pointer none, .int .i64 (validE nn uu ls sn lo hi st f)]) ∧ Below w.heap.size w w' :=
  (cared_calls nn uu A c ls sn lo hi A2 c2 st f w hr hc hr2 hc2).mono fun e w' ⟨hb, hx⟩ => by
    rcases hx with ⟨_, he⟩ | ⟨hne, _⟩
    · exact ⟨he, hb⟩
    · exact absurd hne h
theorem validE_ok {nn uu : Int} {ls : List Lk} {sn lo hi : Int} {st : List Int} {f : Int} (h : validE nn uu ls sn lo hi st f = 0) : ∃ n : Nat, nn = n ∧ StOk n uu ls sn lo hi ∧ (st.length : Int) = uu ∧ (∀ x ∈ st, stGood x) ∧ 0 ≤ f ∧ f ≤ 3 := by
  unfold validE at h
  split at h
  · rename_i h0
    obtain ⟨n, e, hO⟩ := startE_ok h0
    split at h
    · rename_i h1
      split at h
      · rename_i h2
        split at h
        · rename_i h3; exact ⟨n, e, hO, h1, h2, h3⟩
        · omega
      · omega
    · omega
  · rename_i h0; exact absurd h h0
theorem one_due {w : World} {b t : Nat} {d : Du} (h : w.heap[b]? = some (.cells #[.int .i64 d.f0, .int .i64 d.f1] t (0, 0))) : Kd.C PB.k41 w (some ⟨b, 0, none⟩) [d].length [d] := by
  refine ⟨rfl, by simp, fun _ => ⟨_, rfl, fun j p hj => ?_⟩⟩
  have hj0 : j = 0 := by
    have := (List.getElem?_eq_some_iff.1 hj).1
    simp at this; omega
  subst hj0
  have hp : d = p := by simpa using hj
  subst hp
  refine ⟨[.int .i64 d.f0, .int .i64 d.f1], rfl, PB.k41_mk w d, fun i u hu => ?_⟩
  rw [Nat.zero_mul, Nat.zero_add, Addr.add_mid, Nat.zero_add, blk_cell h i]
  simpa using hu
def askE (nn uu : Int) (ls : List Lk) (sn lo hi : Int) (st : List Int) (f : Int) (d : Du) : Int := if validE nn uu ls sn lo hi st f = 0 then duesE nn [d] else validE nn uu ls sn lo hi st f
def AskedPost (w : World) (nn uu : Int) (sv : Value) (ls : List Lk) (sn lo hi : Int) (st : List Int) (f : Int) (d : Du) (e : Ending) (w' : World) : Prop :=
  Below w.heap.size w w' ∧
  ((askE nn uu ls sn lo hi st f d ≠ 0 ∧ ∃ pv, e = .returned (.tuple #[pv, .int .i64 (askE nn uu ls sn lo hi st f d)])) ∨
   (askE nn uu ls sn lo hi st f d = 0 ∧ ∃ cb, e = .returned (.tuple #[.pointer (some ⟨cb, 0, none⟩), .int .i64 0]) ∧ CareAt w' w.heap.size cb nn uu sv sn lo hi ls st))
theorem CareAt.lower {w : World} {B B' cb : Nat} {nn uu : Int} {sv : Value} {sn lo hi : Int} {ls : List Lk} {st : List Int} (h : CareAt w B cb nn uu sv sn lo hi ls st) (hs : B' ≤ B) : CareAt w B' cb nn uu sv sn lo hi ls st := by
  obtain ⟨wp, fv, h1, h2, h3, h4, m, L, cl, h5, h6, h7⟩ := h
  exact ⟨wp, fv, by omega, h2, own_less h3 hs, by omega, m, L, cl, h5, by omega, ⟨h7.map, fun k => own_less (h7.own k) hs, h7.ne⟩⟩

set_option maxHeartbeats 4000000 in
theorem asked_calls (nn uu : Int) (A : Option Addr) (c : Nat) (ls : List Lk) (sn lo hi : Int) (A2 : Option Addr) (c2 : Nat) (st : List Int) (f : Int) (d : Du) (w : World)
    (hr : Kd.C PB.k88 w A ls.length ls) (hc : ls.length ≤ c) (hr2 : Kd.C (Kd.int .i64) w A2 st.length st) (hc2 : st.length ≤ c2) :
    Calls Try.prog 95 #[.agg #[.int .i64 nn, .int .i64 uu, .slice A ls.length c], .agg #[.int .i64 sn, .int .i64 lo, .int .i64 hi], .slice A2 st.length c2, .int .i64 f, .agg #[.int .i64 d.f0, .int .i64 d.f1]] w (AskedPost w nn uu (.slice A ls.length c) ls sn lo hi st f d) := by
  have HR := Aside0.mk hr
  have HC := Aside0.mk hc
  have HR2 := Aside0.mk hr2
  have HC2 := Aside0.mk hc2
  clear hr hc hr2 hc2
  go_enter Try.func95, Try.ntmps95
  go_wp2_with ((with_reducible refine gate_dst (N := 5) rfl ?_); refine hold ?_)
  refine box_event rfl (N := 5) rfl (cs := #[.int .i64 nn, .int .i64 uu, .slice A ls.length c]) (t := 32) (by go_simp) ?_
  intro bn hbn w1 hb1 hB1
  have HB1 := Aside0.mk hB1
  have Hb1 := Aside0.mk hb1
  clear hbn hB1 hb1
  go_wp2_with ((with_reducible refine gate_dst (N := 6) rfl ?_); refine hold ?_)
  refine box_event rfl (N := 6) rfl (cs := #[.int .i64 sn, .int .i64 lo, .int .i64 hi]) (t := 43) (by go_simp) ?_
  intro bs hbs w2 hb2 hB2
  have HB2 := Aside0.mk (below_step HB1.out hB2)
  have Hb2 := Aside0.mk (And.intro (blk_below Hb1.out hB2) hb2)
  clear hbs hB2 hb2 Hb1 HB1
  go_wp2_with ((with_reducible refine gate_dst (N := 9) rfl ?_); refine hold ?_)
  refine box_event rfl (N := 9) rfl (cs := #[.int .i64 d.f0, .int .i64 d.f1]) (t := 94) (by go_simp) ?_
  intro bd hbd w3 hb3 hB3
  have HB3 := Aside0.mk (below_step HB2.out hB3)
  have HBD := Aside0.mk hb3
  have hx1 := blk_below Hb2.out.1 hB3
  have hx2 := blk_below Hb2.out.2 hB3
  have C0 : w3.cell? ⟨bn, 0, none⟩ = some (.int .i64 nn) := blk_cell hx1 0
  have C1 : w3.cell? ⟨bn, 1, none⟩ = some (.int .i64 uu) := blk_cell hx1 1
  have C2 : w3.cell? ⟨bn, 2, none⟩ = some (.slice A ls.length c) := blk_cell hx1 2
  have C3 : w3.cell? ⟨bs, 0, none⟩ = some (.int .i64 sn) := blk_cell hx2 0
  have C4 : w3.cell? ⟨bs, 1, none⟩ = some (.int .i64 lo) := blk_cell hx2 1
  have C5 : w3.cell? ⟨bs, 2, none⟩ = some (.int .i64 hi) := blk_cell hx2 2
  clear hx1 hx2 hb3 hB3 hbd Hb2 HB2
  by_cases h0 : validE nn uu ls sn lo hi st f = 0
  · have HV : Aside0 (askE nn uu ls sn lo hi st f d = duesE nn [d]) := ⟨by unfold askE; rw [if_pos h0]⟩
    have HV0 := Aside0.mk h0
    have HN : Aside0 (1 ≤ nn ∧ nn ≤ 64) := ⟨by
      obtain ⟨n, rfl, hO, _⟩ := validE_ok h0
      exact ⟨hO.net.n1, hO.net.n2⟩⟩
    clear h0
    go_wp2_with (first | (go_at_call 54; refine ((cared_ok nn uu A c ls sn lo hi A2 c2 st f _ (Kd.C_below HR.out HB3.out) HC.out (Kd.C_below HR2.out HB3.out) HC2.out HV0.out).mono ?_); rintro e w4 ⟨cb, rfl, hb, hcare⟩; have HB4 := Aside0.mk (below_step HB3.out hb); have HCA := Aside0.mk (hcare.lower HB3.out.size); have D0 : w4.cell? ⟨bd, 0, none⟩ = some (.int .i64 d.f0) := (blk_cell (blk_below HBD.out hb) 0); have D1 : w4.cell? ⟨bd, 1, none⟩ = some (.int .i64 d.f1) := (blk_cell (blk_below HBD.out hb) 1); clear hb hcare C0 C1 C2 C3 C4 C5) | (go_at_call 91; refine ((checkD_calls cb w.heap.size nn uu (.slice A ls.length c) sn lo hi ls st (some ⟨w4.heap.size, 0, none⟩) 1 [d] _ (HCA.out.below (below_alloc (Below.refl _ _) _)) HN.out (one_due (blk_new w4 _)) (Nat.le_refl _)).mono ?_); rintro e w5 ⟨rfl, hb⟩; have HB5 := Aside0.mk (below_step (below_alloc (Below.refl w4.heap.size w4) (.cells #[.int .i64 d.f0, .int .i64 d.f1] 94 (0, 0))) hb); clear hb D0 D1))
    go_ret2
    refine ⟨below_step HB4.out HB5.out, ?_⟩
    rw [HV.out]
    by_cases hz : duesE nn [d] = 0
    · exact .inr ⟨hz, cb, by rw [hz]; rfl, HCA.out.below HB5.out⟩
    · exact .inl ⟨hz, _, rfl⟩
  · have HV : Aside0 (askE nn uu ls sn lo hi st f d = validE nn uu ls sn lo hi st f ∧ validE nn uu ls sn lo hi st f ≠ 0) := ⟨by unfold askE; rw [if_neg h0], h0⟩
    have hd : (validE nn uu ls sn lo hi st f == 0) = false := by simpa using h0
    clear h0
    go_wp2_with (first | (go_at_call 54; refine ((cared_err nn uu A c ls sn lo hi A2 c2 st f _ (Kd.C_below HR.out HB3.out) HC.out (Kd.C_below HR2.out HB3.out) HC2.out HV.out.2).mono ?_); rintro e w4 ⟨rfl, hb⟩; have HB4 := Aside0.mk (below_step HB3.out hb); clear hb C0 C1 C2 C3 C4 C5))
    go_ret2
    exact ⟨HB4.out, .inl ⟨by rw [HV.out.1]; exact HV.out.2, _, by rw [HV.out.1]; rfl⟩⟩
end Go.Proofs.Ytgmglpnoppcnkaa
