/- SpreadFewer, walked. -/
import Derived.Test.YtgmglpnoppcnkaaMA
import Derived.Test.YtgmglpnoppcnkaaMW
import Derived.Deep.DeepCutAuto
import Derived.StillTailTactics

namespace Go.Proofs.Ytgmglpnoppcnkaa
open Go.RowKit Go.Proofs.YtgmglpnoppcnkaaW.PrintWords Go.Proofs.YtgmglpnoppcnkaaW.PrintLast Go.Proofs.YtgmglpnoppcnkaaW.PrintMore
set_option linter.unusedVariables false
set_option linter.unusedSimpArgs false
set_option maxRecDepth 100000
attribute [local go_sem] max2_int min2_int max_two min_two max_three min_three max_four min_four

/-- What is small enough for a law. -/
def smallP (ls : List Lk) (st : List Int) (f : Int) : Prop := (ls.length ≤ 300 ∧ st.length ≤ 30) ∧ ls.length ≤ 60 ∧ (f ≤ 1 ∨ 3 < f ∨ st.length ≤ 10)
instance (ls : List Lk) (st : List Int) (f : Int) : Decidable (smallP ls st f) := by unfold smallP; infer_instance
theorem small_any (nn uu : Int) (A : Option Addr) (c : Nat) (ls : List Lk) (A2 : Option Addr) (c2 : Nat) (st : List Int) (f : Int) (w : World) (hr : LinksAt w A ls) (hc : ls.length ≤ c) (hr2 : IntsAt w A2 st) (hc2 : st.length ≤ c2) :
    Calls Try.prog 28 #[.agg #[.int .i64 nn, .int .i64 uu, .slice A ls.length c], .slice A2 st.length c2, .int .i64 f] w fun e w' => e = .returned (.bool (decide (smallP ls st f))) ∧ Below w.heap.size w w' := by
  refine PB.tidewalllaw08_small.calls nn uu A c ls A2 c2 st f _ w hr hc hr2 hc2 ?_
  unfold PB.tidewalllaw08_small.f PB.tidewalllaw08_few.f
  by_cases h1 : ls.length ≤ 300
  · rw [if_pos (by omega)]
    by_cases h2 : st.length ≤ 30
    · rw [decide_eq_true (show (st.length : Int) ≤ 30 by omega)]
      rw [Option.bind_some, if_pos rfl]
      by_cases h3 : ls.length ≤ 60
      · rw [if_pos (by omega)]
        by_cases h4 : f ≤ 1
        · rw [if_pos h4, decide_eq_true (show smallP ls st f from ⟨⟨h1, h2⟩, h3, .inl h4⟩)]
        · rw [if_neg h4]
          by_cases h5 : 3 < f
          · rw [if_pos h5, decide_eq_true (show smallP ls st f from ⟨⟨h1, h2⟩, h3, .inr (.inl h5)⟩)]
          · rw [if_neg h5]
            by_cases h6 : st.length ≤ 10
            · rw [decide_eq_true (show (st.length : Int) ≤ 10 by omega), decide_eq_true (show smallP ls st f from ⟨⟨h1, h2⟩, h3, .inr (.inr h6)⟩)]
            · rw [decide_eq_false (show ¬ (st.length : Int) ≤ 10 by omega), decide_eq_false (show ¬ smallP ls st f by unfold smallP; omega)]
      · rw [if_neg (by omega), decide_eq_false (show ¬ smallP ls st f by unfold smallP; omega)]
    · rw [decide_eq_false (show ¬ (st.length : Int) ≤ 30 by omega)]
      rw [Option.bind_some, if_neg (by decide), decide_eq_false (show ¬ smallP ls st f by unfold smallP; omega)]
  · rw [if_neg (by omega)]
    rw [Option.bind_some, if_neg (by decide), decide_eq_false (show ¬ smallP ls st f by unfold smallP; omega)]
theorem check_any (nn uu : Int) (A : Option Addr) (c : Nat) (ls : List Lk) (w : World) (hr : LinksAt w A ls) (hc : ls.length ≤ c) :
    Calls Try.prog 29 #[.agg #[.int .i64 nn, .int .i64 uu, .slice A ls.length c]] w fun e w' => e = .returned (.int .i64 (checkE nn uu ls)) ∧ Below w.heap.size w w' := by
  obtain ⟨k, hk⟩ := check_eq nn uu ls
  exact PB.spread_Check.calls k nn uu A c ls _ w hr hc hk

/-- A store into a row of integers of its own. -/
theorem own_set {W : World} {B g cap : Nat} {st : List Int} (h : W.ownsRow B 3 1 (.slice (some ⟨g, 0, none⟩) st.length cap) st.length (ints st)) (h9 : st.length ≤ 9223372036854775807) :
    B ≤ g ∧ st.length ≤ cap ∧ (∀ j (hj : j < st.length), W.cell? ⟨g, j, none⟩ = some (.int .i64 st[j])) ∧ (∀ j, W.frozen? ⟨g, j, none⟩ = false) ∧
      ∀ (u : Nat) (v : Int), u < st.length → IntsAt (W.setCell ⟨g, u, none⟩ (.int .i64 v)) (some ⟨g, 0, none⟩) (st.set u v) := by
  rcases h.2 with ⟨e, e0⟩ | ⟨g', cap', cur, e, hB, hg, hc, hm, hs, hx⟩
  · cases e
  · cases e
    have hget : ∀ j, (hj : j < st.length) → cur[j]? = some (.int .i64 st[j]) := fun j hj => by
      have h1 : (cur.toList.take (st.length * 1))[j]? = some (.int .i64 st[j]) := by rw [hx]; simp [ints, hj]
      rw [List.getElem?_take, if_pos (by omega)] at h1
      simpa using h1
    refine ⟨hB, hc, fun j hj => by rw [blk_cell hg]; exact hget j hj, fun j => blk_frozen hg j, fun u v hu => ⟨rfl, by rw [List.length_set]; exact h9, fun _ => ⟨_, rfl, fun j p hj => ?_⟩⟩⟩
    refine ⟨[.int .i64 p], rfl, rfl, fun i x hi => ?_⟩
    have hi0 : i = 0 := by
      have := (List.getElem?_eq_some_iff.1 hi).1
      simp at this; omega
    subst hi0
    have hx' : Value.int .i64 p = x := by simpa using hi
    have e2 : (Kd.int .i64).sz = 1 := rfl
    have hjl : j < st.length := by
      have := (List.getElem?_eq_some_iff.1 hj).1
      rwa [List.length_set] at this
    rw [e2, Nat.mul_one, Nat.add_zero, Addr.add_mid, Nat.zero_add, blk_cell (blk_set hg u (.int .i64 v)) j, ← hx']
    rw [Array.getElem?_setIfInBounds]
    by_cases e : u = j
    · subst e
      rw [List.getElem?_set_self hjl] at hj
      cases hj
      have : u < cur.size := by omega
      simp [this]
    · rw [List.getElem?_set_ne e, List.getElem?_eq_getElem hjl] at hj
      cases hj
      rw [if_neg e]
      exact hget j hjl

theorem links_news {w : World} {ad : Addr} {ls : List Lk} (h : LinksAt w (some ad) ls) : ∀ k u, (linksCs ls)[k]? = some u → w.cell? (ad.add k) = some u := fun k u hu => by
  have hk : k < ls.length * 6 := by
    have := (List.getElem?_eq_some_iff.1 hu).1
    rwa [linksCs_length] at this
  have hq : k / 6 < ls.length := by omega
  have he : k / 6 * 6 + k % 6 = k := by omega
  rw [← he, linksCs_get ls (k / 6) (k % 6) hq (by omega)] at hu
  obtain ⟨ad', e, h2⟩ := h.2.2 (by omega)
  cases e
  obtain ⟨cs, k1, k2, k3⟩ := h2 (k / 6) ls[k / 6] (List.getElem?_eq_getElem hq)
  have hcs := PB.k88_open k2
  have := k3 (k % 6) u (by rw [hcs]; exact hu)
  have e6 : (PB.k88).sz = 6 := rfl
  rw [e6, he] at this
  exact this
/-- Two stores into a row of links of its own: a link's delay. -/
theorem own_links_set {W : World} {B g cap : Nat} {ls : List Lk} (h : W.ownsRow B 88 6 (.slice (some ⟨g, 0, none⟩) ls.length cap) ls.length (linksCs ls)) (h9 : ls.length ≤ 9223372036854775807) (I : Nat) (hI : I < ls.length) :
    B ≤ g ∧ ls.length ≤ cap ∧ W.cell? ⟨g, I * 6 + 2, none⟩ = some (.int .i64 ls[I].f2.f0) ∧ W.cell? ⟨g, I * 6 + 3, none⟩ = some (.int .i64 ls[I].f2.f1) ∧ (∀ j, W.frozen? ⟨g, j, none⟩ = false) ∧
      (∀ a : Int, (W.setCell ⟨g, I * 6 + 2, none⟩ (.int .i64 a)).cell? ⟨g, I * 6 + 2, none⟩ = some (.int .i64 a) ∧ (W.setCell ⟨g, I * 6 + 2, none⟩ (.int .i64 a)).cell? ⟨g, I * 6 + 3, none⟩ = some (.int .i64 ls[I].f2.f1) ∧ (∀ j, (W.setCell ⟨g, I * 6 + 2, none⟩ (.int .i64 a)).frozen? ⟨g, j, none⟩ = false)) ∧
      ∀ a b : Int, LinksAt ((W.setCell ⟨g, I * 6 + 2, none⟩ (.int .i64 a)).setCell ⟨g, I * 6 + 3, none⟩ (.int .i64 b)) (some ⟨g, 0, none⟩) (ls.set I { ls[I] with f2 := { ls[I].f2 with f0 := a, f1 := b } }) := by
  rcases h.2 with ⟨e, e0⟩ | ⟨g', cap', cur, e, hB, hg, hc, hm, hs, hx⟩
  · cases e
  · cases e
    have hget : ∀ j (hj : j < ls.length) i, i < 6 → cur[j * 6 + i]? = (linkCs ls[j]).toList[i]? := fun j hj i hi => by
      have h1 : (cur.toList.take (ls.length * 6))[j * 6 + i]? = (linkCs ls[j]).toList[i]? := by rw [hx]; exact linksCs_get ls j i hj hi
      rw [List.getElem?_take, if_pos (by omega)] at h1
      simpa using h1
    have g2 : cur[I * 6 + 2]? = some (.int .i64 ls[I].f2.f0) := hget I hI 2 (by decide)
    have g3 : cur[I * 6 + 3]? = some (.int .i64 ls[I].f2.f1) := hget I hI 3 (by decide)
    have hsz : I * 6 + 3 < cur.size := by
      rw [hs]
      omega
    have b1 := fun a : Int => blk_set hg (I * 6 + 2) (.int .i64 a)
    have b2 := fun a b : Int => blk_set (b1 a) (I * 6 + 3) (.int .i64 b)
    refine ⟨hB, hc, by rw [blk_cell hg]; exact g2, by rw [blk_cell hg]; exact g3, fun j => blk_frozen hg j, fun a => ⟨?_, ?_, fun j => blk_frozen (b1 a) j⟩, fun a b => ⟨rfl, by rw [List.length_set]; exact h9, fun _ => ⟨_, rfl, fun j p hj => ?_⟩⟩⟩
    · rw [blk_cell (b1 a), Array.getElem?_setIfInBounds, if_pos rfl, if_pos (by omega)]
    · rw [blk_cell (b1 a), Array.getElem?_setIfInBounds, if_neg (by omega)]
      exact g3
    · refine ⟨_, rfl, PB.k88_mk _ p, fun i u hu => ?_⟩
      have hi : i < 6 := by
        have := (List.getElem?_eq_some_iff.1 hu).1
        simpa using this
      have hjl : j < ls.length := by
        have := (List.getElem?_eq_some_iff.1 hj).1
        rwa [List.length_set] at this
      have e6 : (PB.k88).sz = 6 := rfl
      rw [e6, Addr.add_mid, Nat.zero_add, blk_cell (b2 a b) (j * 6 + i), Array.getElem?_setIfInBounds, Array.size_setIfInBounds]
      by_cases e : I = j
      · subst e
        rw [List.getElem?_set_self hI] at hj
        cases hj
        have hi6 : i = 0 ∨ i = 1 ∨ i = 2 ∨ i = 3 ∨ i = 4 ∨ i = 5 := by omega
        have hg6 := hget I hI
        rcases hi6 with rfl | rfl | rfl | rfl | rfl | rfl
        · rw [if_neg (by omega), Array.getElem?_setIfInBounds, if_neg (by omega), hg6 0 (by decide)]; exact hu
        · rw [if_neg (by omega), Array.getElem?_setIfInBounds, if_neg (by omega), hg6 1 (by decide)]; exact hu
        · rw [if_neg (by omega), Array.getElem?_setIfInBounds, if_pos rfl, if_pos (by omega)]; exact hu
        · rw [if_pos rfl, if_pos hsz]; exact hu
        · rw [if_neg (by omega), Array.getElem?_setIfInBounds, if_neg (by omega), hg6 4 (by decide)]; exact hu
        · rw [if_neg (by omega), Array.getElem?_setIfInBounds, if_neg (by omega), hg6 5 (by decide)]; exact hu
      · rw [List.getElem?_set_ne e, List.getElem?_eq_getElem hjl] at hj
        cases hj
        rw [if_neg (by omega), Array.getElem?_setIfInBounds, if_neg (by omega), hget j hjl i hi]
        exact hu

set_option maxHeartbeats 8000000 in
theorem SpreadFewer_calls (nn uu : Int) (A : Option Addr) (c : Nat) (ls : List Lk) (sn lo hi : Int) (A2 : Option Addr) (c2 : Nat) (st : List Int) (f b8 l8 n0 n1 : Int) (w : World)
    (hr : LinksAt w A ls) (hc : ls.length ≤ c) (hr2 : IntsAt w A2 st) (hc2 : st.length ≤ c2) (hb8 : 0 ≤ b8 ∧ b8 ≤ 255) (hl8 : 0 ≤ l8 ∧ l8 ≤ 255) (hn0 : 0 ≤ n0 ∧ n0 ≤ 65535) (hn1 : 0 ≤ n1 ∧ n1 ≤ 65535) :
    Calls Try.prog 5 #[.agg #[.int .i64 nn, .int .i64 uu, .slice A ls.length c], .agg #[.int .i64 sn, .int .i64 lo, .int .i64 hi], .slice A2 st.length c2, .int .i64 f, .int .u8 b8, .int .u8 l8, .agg #[.int .u16 n0, .int .u16 n1]] w fun e w' => e = .returned (.bool true) ∧ Below w.heap.size w w' := by
  have HR := Aside0.mk (And.intro hr (And.intro hc (And.intro hr2 hc2)))
  have HN8 := Aside0.mk (And.intro hb8 (And.intro hl8 (And.intro hn0 hn1)))
  clear hr hc hr2 hc2 hb8 hl8 hn0 hn1
  go_enter Try.func5, Try.ntmps5
  go_wp2_with ((with_reducible refine gate_dst (N := 7) rfl ?_); refine hold ?_)
  refine box_event rfl (N := 7) rfl (cs := #[.int .i64 nn, .int .i64 uu, .slice A ls.length c]) (t := 32) (by go_simp) ?_
  intro bn hbn w1 hb1 hB1
  have HB1 := Aside0.mk (And.intro hB1 hb1)
  clear hbn hB1 hb1
  go_wp2_with ((with_reducible refine gate_dst (N := 8) rfl ?_); refine hold ?_)
  refine box_event rfl (N := 8) rfl (cs := #[.int .i64 sn, .int .i64 lo, .int .i64 hi]) (t := 43) (by go_simp) ?_
  intro bs hbs w2 hb2 hB2
  have HB2 := Aside0.mk (And.intro (below_step HB1.out.1 hB2) (And.intro (blk_below HB1.out.2 hB2) hb2))
  clear hb2 hB2 hbs HB1
  go_wp2_with ((with_reducible refine gate_dst (N := 13) rfl ?_); refine hold ?_)
  refine box_event rfl (N := 13) rfl (cs := #[.int .u16 n0, .int .u16 n1]) (t := 82) (by go_simp) ?_
  intro ba hba w3 hb3 hB3
  have HB3 := Aside0.mk (And.intro (below_step HB2.out.1 hB3) (And.intro (blk_below HB2.out.2.1 hB3) (And.intro (blk_below HB2.out.2.2 hB3) hb3)))
  clear hb3 hB3 hba HB2
  have HBX : Aside0 (∀ W, Below w3.heap.size w3 W → Below w.heap.size w W ∧ LinksAt W A ls ∧ IntsAt W A2 st ∧ W.heap[bn]? = some (.cells #[.int .i64 nn, .int .i64 uu, .slice A ls.length c] 32 (0, 0)) ∧ W.heap[bs]? = some (.cells #[.int .i64 sn, .int .i64 lo, .int .i64 hi] 43 (0, 0)) ∧ W.heap[ba]? = some (.cells #[.int .u16 n0, .int .u16 n1] 82 (0, 0))) := ⟨fun W hW => by
    have hb := below_step HB3.out.1 hW
    exact ⟨hb, Kd.C_below HR.out.1 hb, Kd.C_below HR.out.2.2.1 hb, blk_below HB3.out.2.1 hW, blk_below HB3.out.2.2.1 hW, blk_below HB3.out.2.2.2 hW⟩⟩
  clear HB3
  have X0 := HBX.out w3 (Below.refl _ _)
  have C0 : w3.cell? ⟨bn, 0, none⟩ = some (.int .i64 nn) := blk_cell X0.2.2.2.1 0
  have C1 : w3.cell? ⟨bn, 1, none⟩ = some (.int .i64 uu) := blk_cell X0.2.2.2.1 1
  have C2 : w3.cell? ⟨bn, 2, none⟩ = some (.slice A ls.length c) := blk_cell X0.2.2.2.1 2
  clear X0
  by_cases hsm : smallP ls st f
  · have HS : Aside0 (Calls Try.prog 28 #[.agg #[.int .i64 nn, .int .i64 uu, .slice A ls.length c], .slice A2 st.length c2, .int .i64 f] w3 fun e w' => e = .returned (.bool true) ∧ Below w3.heap.size w3 w') := ⟨by
      have X0 := HBX.out w3 (Below.refl _ _)
      have := small_any nn uu A c ls A2 c2 st f w3 X0.2.1 HR.out.2.1 X0.2.2.1 HR.out.2.2.2
      rw [decide_eq_true hsm] at this
      exact this⟩
    have HSM := Aside0.mk hsm
    clear hsm
    go_wp2_with fail
    refine HS.out.mono ?_
    rintro e w4 ⟨rfl, hb4⟩
    have H4 := Aside0.mk hb4
    have X0 := HBX.out w4 hb4
    have HC : Aside0 (Calls Try.prog 29 #[.agg #[.int .i64 nn, .int .i64 uu, .slice A ls.length c]] w4 fun e w' => e = .returned (.int .i64 (checkE nn uu ls)) ∧ Below w4.heap.size w4 w') := ⟨check_any nn uu A c ls w4 X0.2.1 HR.out.2.1⟩
    clear C0 C1 C2
    have C0 : w4.cell? ⟨bn, 0, none⟩ = some (.int .i64 nn) := blk_cell X0.2.2.2.1 0
    have C1 : w4.cell? ⟨bn, 1, none⟩ = some (.int .i64 uu) := blk_cell X0.2.2.2.1 1
    have C2 : w4.cell? ⟨bn, 2, none⟩ = some (.slice A ls.length c) := blk_cell X0.2.2.2.1 2
    clear X0 hb4
    go_wp2_with fail
    refine HC.out.mono ?_
    rintro e w5 ⟨rfl, hb5⟩
    have H5 := Aside0.mk (below_step H4.out hb5)
    clear C0 C1 C2 HC HS hb5 H4
    by_cases hck : checkE nn uu ls = 0
    · have hd : (checkE nn uu ls != 0) = false := by simp [hck]
      have HCK := Aside0.mk hck
      clear hck
      have X0 := HBX.out w5 H5.out
      have C0 : w5.cell? ⟨bn, 0, none⟩ = some (.int .i64 nn) := blk_cell X0.2.2.2.1 0
      have C1 : w5.cell? ⟨bn, 1, none⟩ = some (.int .i64 uu) := blk_cell X0.2.2.2.1 1
      have C2 : w5.cell? ⟨bn, 2, none⟩ = some (.slice A ls.length c) := blk_cell X0.2.2.2.1 2
      have C3 : w5.cell? ⟨bs, 0, none⟩ = some (.int .i64 sn) := blk_cell X0.2.2.2.2.1 0
      have C4 : w5.cell? ⟨bs, 1, none⟩ = some (.int .i64 lo) := blk_cell X0.2.2.2.2.1 1
      have C5 : w5.cell? ⟨bs, 2, none⟩ = some (.int .i64 hi) := blk_cell X0.2.2.2.2.1 2
      clear X0
      by_cases hv : validE nn uu ls sn lo hi st f = 0
      · obtain ⟨n, rfl, hO, -, -, hf0, hf3⟩ := validE_ok hv
        obtain ⟨F, rfl⟩ := Int.eq_ofNat_of_zero_le hf0
        have HV := Aside0.mk hv
        have hlen : (worstS n ls sn lo hi st F).length = n := worstS_len hv
        obtain ⟨bb, hbb⟩ : ∃ x, x = worstS n ls sn lo hi st F := ⟨_, rfl⟩
        rw [← hbb] at hlen
        have hlenb : ((bb.length : Int) != (n : Int)) = false := by simp [hlen]
        have HW : Aside0 (Calls Try.prog 16 #[.agg #[.int .i64 n, .int .i64 uu, .slice A ls.length c], .agg #[.int .i64 sn, .int .i64 lo, .int .i64 hi], .slice A2 st.length c2, .int .i64 F] w5 fun e w' => ∃ A c, e = .returned (.tuple #[.slice A bb.length c, .int .i64 0]) ∧ bb.length ≤ c ∧ DuesAt w' A bb ∧ Below w5.heap.size w5 w') := ⟨by
          have X0 := HBX.out w5 H5.out
          rw [hbb]
          exact Worst_any n uu A c ls sn lo hi A2 c2 st F w5 X0.2.1 HR.out.2.1 X0.2.2.1 HR.out.2.2.2 hv⟩
        have HLEN := Aside0.mk (And.intro hbb hlen)
        have hF3 : F ≤ 3 := by omega
        have HF3 := Aside0.mk hF3
        clear hv hf0 hf3 hbb hlen hO hF3
        go_wp2_with fail
        refine HW.out.mono ?_
        rintro e w6 ⟨Ab, cb, rfl, hcb, hAb, hb6⟩
        have HAB := Aside0.mk (And.intro hcb hAb)
        have H6 := Aside0.mk (And.intro (below_step H5.out hb6) hb6)
        clear C0 C1 C2 C3 C4 C5 hb6 hcb hAb HW
        have X0 := HBX.out w6 H6.out.1
        have C0 : w6.cell? ⟨bn, 0, none⟩ = some (.int .i64 n) := blk_cell X0.2.2.2.1 0
        have C1 : w6.cell? ⟨bn, 1, none⟩ = some (.int .i64 uu) := blk_cell X0.2.2.2.1 1
        have C2 : w6.cell? ⟨bn, 2, none⟩ = some (.slice A ls.length c) := blk_cell X0.2.2.2.1 2
        have C3 : w6.cell? ⟨bs, 0, none⟩ = some (.int .i64 sn) := blk_cell X0.2.2.2.2.1 0
        have C4 : w6.cell? ⟨bs, 1, none⟩ = some (.int .i64 lo) := blk_cell X0.2.2.2.2.1 1
        have C5 : w6.cell? ⟨bs, 2, none⟩ = some (.int .i64 hi) := blk_cell X0.2.2.2.2.1 2
        clear X0
        go_upto_if 63 with (fail)
        go_cut [14] (fun v14 wx => v14 = .bool false ∧ Aside0 (Below w6.heap.size w6 wx))
        case first => as_aux_lemma =>

            by_cases hF : 0 < F
            · obtain ⟨G, hG⟩ : ∃ G, F = G + 1 := ⟨F - 1, by omega⟩
              have hd0 : decide (0 < (F : Int)) = true := by simp; omega
              have hwf : IntKind.i64.wrap ((F : Int) - 1) = (G : Int) := by have := HF3.out; rw [i64_w]; unfold wrap64; omega
              have hvG : validE n uu ls sn lo hi st (G + 1 : Nat) = 0 := by rw [← hG]; exact HV.out
              have hvg := valid_f hvG
              obtain ⟨cc, hcc⟩ : ∃ x, x = worstS n ls sn lo hi st G := ⟨_, rfl⟩
              have HCC : Aside0 (cc.length = bb.length ∧ ∀ (j : Nat) p q, cc[j]? = some p → bb[j]? = some q → p.f1 ≤ q.f1 ∧ p.f0 = q.f0) := ⟨by
                refine ⟨by rw [hcc, worstS_len hvg, HLEN.out.2], fun j p q hp hq => ?_⟩
                rw [hcc] at hp
                rw [HLEN.out.1, hG] at hq
                exact worst_f hvG j p q hp hq⟩
              have HW : Aside0 (Calls Try.prog 16 #[.agg #[.int .i64 n, .int .i64 uu, .slice A ls.length c], .agg #[.int .i64 sn, .int .i64 lo, .int .i64 hi], .slice A2 st.length c2, .int .i64 G] w6 fun e w' => ∃ A c, e = .returned (.tuple #[.slice A cc.length c, .int .i64 0]) ∧ cc.length ≤ c ∧ DuesAt w' A cc ∧ Below w6.heap.size w6 w') := ⟨by
                have X0 := HBX.out w6 H6.out.1
                rw [hcc]
                exact Worst_any n uu A c ls sn lo hi A2 c2 st G w6 X0.2.1 HR.out.2.1 X0.2.2.1 HR.out.2.2.2 hvg⟩
              clear hG hvG hvg hcc
              go_wp2_with fail
              refine HW.out.mono ?_
              rintro e w7 ⟨Ac, cc', rfl, hcc', hAc, hb7⟩
              have HAC := Aside0.mk (And.intro hcc' hAc)
              have H7 := Aside0.mk hb7
              clear C0 C1 C2 C3 C4 C5 hb7 hcc' hAc HW
              go_wp2_with fail
              refine (bounded_true Ac Ab cc' cb cc bb true w7 HAC.out.2 HAC.out.1 (Kd.C_below HAB.out.2 H7.out) HAB.out.1 HCC.out.1 (fun j p q hp hq => ⟨(HCC.out.2 j p q hp hq).1, fun _ => (HCC.out.2 j p q hp hq).2⟩)).mono ?_
              rintro e w8 ⟨rfl, hb8⟩
              have H8 := Aside0.mk (below_step H7.out hb8)
              clear hb8
              go_wp2_with fail
              go_meet
              case rel => exact ⟨rfl, H8⟩
            · have hd0 : decide (0 < (F : Int)) = false := by simp; omega
              go_wp2_with fail
              go_meet
              case rel => exact ⟨rfl, ⟨Below.refl _ _⟩⟩

        case rest =>
          obtain ⟨rfl, HC⟩ := hcut
          have HCw := Aside0.mk (below_step H6.out.1 HC.out)
          clear C0 C1 C2 C3 C4 C5
          go_upto_if 83 with (fail)
          go_cut [14] (fun v14 wx => v14 = .bool false ∧ Aside0 (Below wc.heap.size wc wx))
          case first => as_aux_lemma =>

              by_cases h0 : 0 < st.length
              · obtain ⟨ad, had⟩ : ∃ ad, A2 = some ad := by
                  obtain ⟨-, -, h3⟩ := HR.out.2.2.1
                  obtain ⟨ad, e, _⟩ := h3 h0
                  exact ⟨ad, e⟩
                subst had
                obtain ⟨i3, hi3, hy0, hy1, hy2⟩ := info_parts info3
                have hd0 : decide (0 < (st.length : Int)) = true := by simp; omega
                have h0n : ((st.length : Int) == 0) = false := by rw [beq_eq_false_iff_ne]; omega
                have hwb : wrap64 b8 = b8 := by have := HN8.out.1; unfold wrap64; omega
                obtain ⟨U, hU⟩ : ∃ U : Nat, Int.tmod b8 (st.length : Int) = (U : Int) := ⟨(Int.tmod b8 (st.length : Int)).toNat, by rw [Int.toNat_of_nonneg (Int.tmod_nonneg _ HN8.out.1.1)]⟩
                have hUl : U < st.length := by have := Int.tmod_lt_of_pos b8 (show 0 < (st.length : Int) by omega); omega
                have HUL := Aside0.mk hUl
                have hst20 : st.length ≤ 20 := (valid_st HV.out).2.2.1
                have HS20 := Aside0.mk hst20
                have hwr : wrap64 (U : Int) = (U : Int) := by unfold wrap64; omega
                have HO : Aside0 (Below wc.heap.size wc (wc.alloc (.cells #[] 3)) ∧ (wc.alloc (.cells #[] 3)).ownsRow wc.heap.size 3 1 (.slice (some ⟨wc.heap.size, 0, none⟩) 0 0) 0 [] ∧ ∀ j u, (ints st)[j]? = some u → (wc.alloc (.cells #[] 3)).cell? (ad.add j) = some u) := by
                  have hA : Below wc.heap.size wc (wc.alloc (.cells #[] 3)) := below_alloc (Below.refl _ _) _
                  exact ⟨hA, ⟨rfl, .inr ⟨wc.heap.size, 0, #[], rfl, Nat.le_refl _, blk_new wc _, Nat.le_refl _, by unfold maxLen; omega, rfl, rfl⟩⟩, ints_news (Kd.C_below (HBX.out _ HCw.out).2.2.1 hA)⟩
                clear hst20
                go_wp2_with ((with_reducible refine gate_dst (N := 91) rfl ?_); refine hold ?_)
                refine wpList_append_lies _ rfl (.tmp 89) (.tmp 90) 33 rfl wc.heap.size 3 i3 _ 1 8 Try.underlying33 hi3 hy0 hy1 hy2 rfl (by decide) (.slice (some ⟨wc.heap.size, 0, none⟩) 0 0) 0 [] (by go_simp) HO.out.2.1 ad st.length c2 (ints st) (by go_simp) (by rw [ints_len, Nat.mul_one]) HO.out.2.2 (by
                  intro u hu
                  simp only [ints, List.mem_map] at hu
                  obtain ⟨y, _, rfl⟩ := hu
                  rfl) h0 (by have := HS20.out; unfold maxLen; omega) (by have := HS20.out; omega) (by exact HO.out.1.size) _ rfl ?_
                intro g cap w7 hown7 hg7 hor hlt7
                have hown7' : w7.ownsRow wc.heap.size 3 1 (.slice (some ⟨g, 0, none⟩) st.length cap) st.length (ints st) := by simpa using hown7
                have hB7 : Below wc.heap.size wc w7 := HO.out.1.trans ((Kp.grown hg7).below HO.out.1.size (fun k hk => own_base HO.out.2.1 k hk.symm))
                obtain ⟨hgB, hcap, hcells, hfroz, hset⟩ := own_set hown7' (by have := HS20.out; omega)
                obtain ⟨x, hx⟩ : ∃ x, x = st[U]'HUL.out := ⟨_, rfl⟩
                have hxg : stGood x := by rw [hx]; exact (valid_st HV.out).2.1 _ (List.getElem_mem _)
                have hcU := hcells U HUL.out
                rw [← hx] at hcU
                have hfU := hfroz U
                have hw1 : wrap64 (x - 1) = x - 1 := by unfold stGood at hxg; unfold wrap64; omega
                obtain ⟨y, hy⟩ : ∃ y, y = betterS x := ⟨_, rfl⟩
                have hmx : (if (1 : Int) < x - 1 then x - 1 else 1) = y := by rw [hy]; unfold betterS; split <;> omega
                have HB8 : Aside0 (Below wc.heap.size wc (w7.setCell ⟨g, U, none⟩ (.int .i64 y)) ∧ IntsAt (w7.setCell ⟨g, U, none⟩ (.int .i64 y)) (some ⟨g, 0, none⟩) (betterL st U) ∧ st.length ≤ cap) := by
                  refine ⟨hB7.trans ((Kp.setCell w7 g U _).below hB7.size (fun j e => by rw [e]; exact hgB)), ?_, hcap⟩
                  have e : betterL st U = st.set U y := by
                    unfold betterL
                    rw [hy, hx]
                    simp [HUL.out]
                  rw [e]
                  exact hset U y HUL.out
                have HX := Aside0.mk hx
                have HY := Aside0.mk hy
                clear hown7 hg7 hor hlt7 hown7' hB7 hgB hcap hcells hfroz hset hx hxg hy HO
                simp only [Nat.zero_add]
                go_wp2_with ((with_reducible refine gate_dst (N := 102) rfl ?_); refine hold ?_)
                obtain ⟨w8, hw8⟩ : ∃ x, x = w7.setCell ⟨g, U, none⟩ (.int .i64 y) := ⟨_, rfl⟩
                rw [← hw8] at HB8 ⊢
                obtain ⟨cc, hcc⟩ : ∃ x, x = worstS n ls sn lo hi (betterL st U) F := ⟨_, rfl⟩
                have hvb := better_valid HV.out HUL.out
                have X0 := HBX.out w8 (below_step HCw.out HB8.out.1)
                have C0 : w8.cell? ⟨bn, 0, none⟩ = some (.int .i64 n) := blk_cell X0.2.2.2.1 0
                have C1 : w8.cell? ⟨bn, 1, none⟩ = some (.int .i64 uu) := blk_cell X0.2.2.2.1 1
                have C2 : w8.cell? ⟨bn, 2, none⟩ = some (.slice A ls.length c) := blk_cell X0.2.2.2.1 2
                have C3 : w8.cell? ⟨bs, 0, none⟩ = some (.int .i64 sn) := blk_cell X0.2.2.2.2.1 0
                have C4 : w8.cell? ⟨bs, 1, none⟩ = some (.int .i64 lo) := blk_cell X0.2.2.2.2.1 1
                have C5 : w8.cell? ⟨bs, 2, none⟩ = some (.int .i64 hi) := blk_cell X0.2.2.2.2.1 2
                have HW : Aside0 (Calls Try.prog 16 #[.agg #[.int .i64 n, .int .i64 uu, .slice A ls.length c], .agg #[.int .i64 sn, .int .i64 lo, .int .i64 hi], .slice (some ⟨g, 0, none⟩) st.length cap, .int .i64 F] w8 fun e w' => ∃ A c, e = .returned (.tuple #[.slice A cc.length c, .int .i64 0]) ∧ cc.length ≤ c ∧ DuesAt w' A cc ∧ Below w8.heap.size w8 w') := ⟨by
                  have := Worst_any n uu A c ls sn lo hi (some ⟨g, 0, none⟩) cap (betterL st U) F w8 X0.2.1 HR.out.2.1 HB8.out.2.1 (by rw [better_len]; exact HB8.out.2.2) hvb
                  rw [better_len, ← hcc] at this
                  exact this⟩
                have HCC : Aside0 (cc.length = bb.length ∧ ∀ (j : Nat) p q, cc[j]? = some p → bb[j]? = some q → p.f1 ≤ q.f1) := ⟨by
                  refine ⟨by rw [hcc, worstS_len hvb, HLEN.out.2], fun j p q hp hq => ?_⟩
                  rw [hcc] at hp
                  rw [HLEN.out.1] at hq
                  exact worst_better HV.out HUL.out j p q hp hq⟩
                clear hw8 hcc hvb X0 hU hmx hw1 hcU hfU hwb hwr h0n hUl
                refine unhold ?_
                go_wp2_with fail
                refine HW.out.mono ?_
                rintro e w9 ⟨Ac, cc', rfl, hcc', hAc, hb9⟩
                have HAC := Aside0.mk (And.intro hcc' hAc)
                have H9 := Aside0.mk (below_step HB8.out.1 hb9)
                clear C0 C1 C2 C3 C4 C5 hb9 hcc' hAc HW
                go_wp2_with fail
                refine (bounded_true Ac Ab cc' cb cc bb false w9 HAC.out.2 HAC.out.1 (Kd.C_below HAB.out.2 (below_step HC.out H9.out)) HAB.out.1 HCC.out.1 (fun j p q hp hq => ⟨HCC.out.2 j p q hp hq, fun h => by cases h⟩)).mono ?_
                rintro e w10 ⟨rfl, hb10⟩
                have H10 := Aside0.mk (below_step H9.out hb10)
                clear hb10
                go_wp2_with fail
                go_meet
                case rel => exact ⟨rfl, H10⟩
              · have hd0 : decide (0 < (st.length : Int)) = false := decide_eq_false (by omega)
                go_wp2_with fail
                go_meet
                case rel => exact ⟨rfl, ⟨Below.refl _ _⟩⟩

          case rest =>
            obtain ⟨rfl, HD⟩ := hcut
            have HDw := Aside0.mk (below_step HCw.out HD.out)
            have HABd := Aside0.mk (And.intro HAB.out.1 (Kd.C_below HAB.out.2 (below_step HC.out HD.out)))
            clear HC HD HCw HAB
            obtain ⟨we, hwe⟩ : ∃ x, x = wc := ⟨_, rfl⟩
            rw [← hwe] at HDw HABd ⊢
            clear hwe
            have X0 := HBX.out we HDw.out
            have C0 : we.cell? ⟨bn, 0, none⟩ = some (.int .i64 n) := blk_cell X0.2.2.2.1 0
            have C1 : we.cell? ⟨bn, 1, none⟩ = some (.int .i64 uu) := blk_cell X0.2.2.2.1 1
            have C2 : we.cell? ⟨bn, 2, none⟩ = some (.slice A ls.length c) := blk_cell X0.2.2.2.1 2
            clear X0
            by_cases hL : 0 < ls.length
            · have hL0 : ((ls.length : Int) == 0) = false := by rw [beq_eq_false_iff_ne]; omega
              obtain ⟨M, hM⟩ : ∃ M, ls.length = M + 1 := ⟨ls.length - 1, by omega⟩
              have hwm : wrap64 ((ls.length : Int) - 1) = (M : Int) := by have := HSM.out.2.1; unfold wrap64; omega
              obtain ⟨ad, had⟩ : ∃ ad, A = some ad := by
                obtain ⟨-, -, h3⟩ := HR.out.1
                obtain ⟨ad, e, _⟩ := h3 hL
                exact ⟨ad, e⟩
              subst had
              have hMl : M ≤ c := by have := HR.out.2.1; omega
              have HMM := Aside0.mk hM
              have D2 : ∀ o, (we.alloc o).cell? ⟨bn, 2, none⟩ = some (.slice (some ad) ls.length c) := fun o => Lib.cell?_alloc_some o C2
              clear hM
              go_wp2_with ((with_reducible refine gate_dst (N := 132) rfl ?_); refine hold ?_)
              obtain ⟨wf, hwf⟩ : ∃ x, x = we.alloc (.cells #[.int .i64 n, .int .i64 uu, .slice (some ad) M c] 32) := ⟨_, rfl⟩
              have HBf : Aside0 (Below we.heap.size we wf ∧ wf.heap[we.heap.size]? = some (.cells #[.int .i64 n, .int .i64 uu, .slice (some ad) M c] 32 (0, 0))) := ⟨by rw [hwf]; exact below_alloc (Below.refl _ _) _, by rw [hwf]; exact blk_new we _⟩
              obtain ⟨pf, hpf⟩ : ∃ x, x = we.heap.size := ⟨_, rfl⟩
              rw [← hwf, ← hpf]
              rw [← hpf] at HBf
              have HPF := Aside0.mk hpf
              have hX1 := HBX.out wf (below_step HDw.out (by rw [← hpf]; exact HBf.out.1))
              have HBf1 := Aside0.mk (And.intro (below_step HDw.out (by rw [← hpf]; exact HBf.out.1)) (Kd.C_below HABd.out.2 (by rw [← hpf]; exact HBf.out.1)))
              clear C0 C1 C2 D2 hwf hpf hwm hL0
              have C0 : wf.cell? ⟨pf, 0, none⟩ = some (.int .i64 n) := blk_cell HBf.out.2 0
              have C1 : wf.cell? ⟨pf, 1, none⟩ = some (.int .i64 uu) := blk_cell HBf.out.2 1
              have C2 : wf.cell? ⟨pf, 2, none⟩ = some (.slice (some ad) M c) := blk_cell HBf.out.2 2
              have C3 : wf.cell? ⟨bs, 0, none⟩ = some (.int .i64 sn) := blk_cell hX1.2.2.2.2.1 0
              have C4 : wf.cell? ⟨bs, 1, none⟩ = some (.int .i64 lo) := blk_cell hX1.2.2.2.2.1 1
              have C5 : wf.cell? ⟨bs, 2, none⟩ = some (.int .i64 hi) := blk_cell hX1.2.2.2.2.1 2
              obtain ⟨cc, hcc⟩ : ∃ x, x = worstS n (ls.take M) sn lo hi st F := ⟨_, rfl⟩
              have hvl := less_valid HV.out M
              have HW : Aside0 (Calls Try.prog 16 #[.agg #[.int .i64 n, .int .i64 uu, .slice (some ad) M c], .agg #[.int .i64 sn, .int .i64 lo, .int .i64 hi], .slice A2 st.length c2, .int .i64 F] wf fun e w' => ∃ A c, e = .returned (.tuple #[.slice A cc.length c, .int .i64 0]) ∧ cc.length ≤ c ∧ DuesAt w' A cc ∧ Below wf.heap.size wf w') := ⟨by
                have hlen : (ls.take M).length = M := by rw [List.length_take, HMM.out]; omega
                have hat : LinksAt wf (some ad) (ls.take M) := by
                  have h := hX1.2.1
                  refine ⟨rfl, by rw [hlen]; have := h.2.1; have := HMM.out; omega, fun h0 => ?_⟩
                  obtain ⟨ad', e, h2⟩ := h.2.2 (by have := HMM.out; omega)
                  refine ⟨ad', e, fun j p hj => h2 j p ?_⟩
                  rw [List.getElem?_take] at hj
                  split at hj
                  · exact hj
                  · cases hj
                have := Worst_any n uu (some ad) c (ls.take M) sn lo hi A2 c2 st F wf hat (by rw [hlen]; exact hMl) hX1.2.2.1 HR.out.2.2.2 hvl
                rw [hlen, ← hcc] at this
                exact this⟩
              have HCC : Aside0 (cc.length = bb.length ∧ ∀ (j : Nat) p q, bb[j]? = some p → cc[j]? = some q → p.f0 ≤ q.f0 ∧ p.f1 ≤ q.f1) := ⟨by
                refine ⟨by rw [hcc, worstS_len hvl, HLEN.out.2], fun j p q hp hq => ?_⟩
                rw [hcc] at hq
                rw [HLEN.out.1] at hp
                exact worst_less HV.out M j p q hp hq⟩
              have hcb : ((cc.length : Int) != (bb.length : Int)) = false := by simp [HCC.out.1]
              clear hX1 hvl hcc
              refine unhold ?_
              go_wp2_with fail
              refine HW.out.mono ?_
              rintro e wg ⟨Ac, cc', rfl, hcc', hAc, hbg⟩
              have HAC := Aside0.mk (And.intro hcc' (And.intro hAc (Kd.C_below HBf1.out.2 hbg)))
              have Hg := Aside0.mk (below_step HBf1.out.1 hbg)
              clear C0 C1 C2 C3 C4 C5 hbg hcc' hAc HW
              have hle64 : bb.length ≤ 64 := by have := HLEN.out.2; have := (valid_st HV.out).1.net.n2; omega
              go_wp2_with fail
              go_loopw [25] (fun v wr => ∃ i : Nat, v = .int .i64 i ∧ i ≤ bb.length ∧ Aside0 (Below wg.heap.size wg wr)) (fun v _ => bb.length - (intOf v).toNat)
              case atStart => exact ⟨0, rfl, Nat.zero_le _, ⟨Below.refl _ _⟩⟩
              case round =>
                obtain ⟨i, rfl, hile, HI⟩ := hrel
                obtain ⟨wo, rfl⟩ : ∃ wo, wo = wr := ⟨_, rfl⟩
                by_cases hgo : i < bb.length
                · have hwi : IntKind.i64.wrap ((i : Int) + 1) = (i : Int) + 1 := by rw [i64_w]; unfold wrap64; omega
                  have hgoc : i < cc.length := by have := HCC.out.1; omega
                  have hpq := HCC.out.2 i bb[i] cc[i] (List.getElem?_eq_getElem hgo) (List.getElem?_eq_getElem hgoc)
                  obtain ⟨p, hp⟩ : ∃ p, p = bb[i] := ⟨_, rfl⟩
                  obtain ⟨q, hq⟩ : ∃ q, q = cc[i] := ⟨_, rfl⟩
                  rw [← hp, ← hq] at hpq
                  have hrp : PB.rd_T41 bb (i : Int) = p := by rw [hp]; simp [PB.rd_T41, List.getElem?_eq_getElem hgo]
                  have hrq : PB.rd_T41 cc (i : Int) = q := by rw [hq]; simp [PB.rd_T41, List.getElem?_eq_getElem hgoc]
                  have e1 := PB.at_T41 (Kd.C_below HAC.out.2.2 HI.out) (i : Int) (by omega) (by omega)
                  have e2 := PB.at_T41 (Kd.C_below HAC.out.2.1 HI.out) (i : Int) (by omega) (by omega)
                  rw [hrp, Int.toNat_natCast] at e1
                  rw [hrq, Int.toNat_natCast] at e2
                  obtain ⟨ad1, rfl, k1, k2⟩ := e1
                  obtain ⟨ad2, rfl, k3, k4⟩ := e2
                  have hd1 : decide (q.f0 < p.f0) = false := decide_eq_false (by omega)
                  have hd2 : decide (q.f1 < p.f1) = false := decide_eq_false (by omega)
                  clear hp hq hrp hrq hpq
                  go_wp2
                  repeat (go_quiet (fail); try go_wp2)
                  go_roundw
                  case rel => exact ⟨i + 1, by go_num, by omega, ⟨pw_below_drewN HI.out _⟩⟩
                  case measure => simp [intOf]; omega
                · obtain rfl : i = bb.length := by omega
                  have HWo := Aside0.mk (And.intro (below_step Hg.out HI.out) (And.intro HABd.out.1 (Kd.C_below HAC.out.2.2 HI.out)))
                  clear hile hgo HI HAC HABd HCC hcb HPF HBf HBf1 Hg HDw
                  obtain ⟨i0, hi0, hz0, hz1, hz2⟩ := info_parts info88
                  have X0 := HBX.out wo HWo.out.1
                  have C0 : wo.cell? ⟨bn, 0, none⟩ = some (.int .i64 n) := blk_cell X0.2.2.2.1 0
                  have C1 : wo.cell? ⟨bn, 1, none⟩ = some (.int .i64 uu) := blk_cell X0.2.2.2.1 1
                  have C2 : wo.cell? ⟨bn, 2, none⟩ = some (.slice (some ad) ls.length c) := blk_cell X0.2.2.2.1 2
                  have D2 : ∀ o, (wo.alloc o).cell? ⟨bn, 2, none⟩ = some (.slice (some ad) ls.length c) := fun o => Lib.cell?_alloc_some o C2
                  have D3 : ∀ o o', ((wo.alloc o).alloc o').cell? ⟨bn, 2, none⟩ = some (.slice (some ad) ls.length c) := fun o o' => Lib.cell?_alloc_some o' (D2 o)
                  clear X0
                  go_wp2_with ((with_reducible refine gate_dst (N := 182) rfl ?_); refine hold ?_)
                  obtain ⟨wa, hwa⟩ : ∃ x, x = (wo.alloc (.cells #[.int .i64 n, .int .i64 uu, .slice (some ad) ls.length c] 32)).alloc (.cells #[] 88) := ⟨_, rfl⟩
                  obtain ⟨pt, hpt⟩ : ∃ x, x = wo.heap.size := ⟨_, rfl⟩
                  have HWA : Aside0 (Below pt wo wa ∧ wa.heap[pt]? = some (.cells #[.int .i64 n, .int .i64 uu, .slice (some ad) ls.length c] 32 (0, 0)) ∧ wa.ownsRow pt 88 6 (.slice (some ⟨pt + 1, 0, none⟩) 0 0) 0 [] ∧ pt ≤ wa.heap.size ∧ wa.heap.size = pt + 2 ∧ pt = wo.heap.size) := ⟨by
                    have hb1 : Below wo.heap.size wo (wo.alloc (.cells #[.int .i64 n, .int .i64 uu, .slice (some ad) ls.length c] 32)) := below_alloc (Below.refl _ _) _
                    have hb2 : Below wo.heap.size wo wa := by rw [hwa]; exact below_alloc hb1 _
                    have hs1 : (wo.alloc (.cells #[.int .i64 n, .int .i64 uu, .slice (some ad) ls.length c] 32)).heap.size = wo.heap.size + 1 := Array.size_push _
                    have hs2 : wa.heap.size = wo.heap.size + 2 := by rw [hwa]; exact (Array.size_push _).trans (by rw [hs1])
                    have hk1 := blk_new wo (.cells #[.int .i64 n, .int .i64 uu, .slice (some ad) ls.length c] 32)
                    have hk2 := blk_new (wo.alloc (.cells #[.int .i64 n, .int .i64 uu, .slice (some ad) ls.length c] 32)) (.cells #[] 88)
                    rw [hs1] at hk2
                    rw [hpt]
                    refine ⟨hb2, ?_, ⟨rfl, .inr ⟨wo.heap.size + 1, 0, #[], rfl, by omega, by rw [hwa]; exact hk2, Nat.le_refl _, by unfold maxLen; omega, rfl, rfl⟩⟩, by omega, hs2, rfl⟩
                    rw [hwa]
                    exact blk_below hk1 (below_alloc (Below.refl _ _) _)⟩
                  rw [← hwa, ← hpt]
                  have HLN : Aside0 (∀ j u, (linksCs ls)[j]? = some u → wa.cell? (ad.add j) = some u) := ⟨links_news (Kd.C_below (HBX.out _ HWo.out.1).2.1 (by rw [← HWA.out.2.2.2.2.2]; exact HWA.out.1))⟩
                  have hlenl : ls.length ≤ 60 := HSM.out.2.1
                  have HL60 := Aside0.mk hlenl
                  clear hwa hpt C0 C1 C2 D2 D3 hlenl
                  refine wpList_append_lies _ rfl (.tmp 179) (.tmp 181) 30 rfl pt 88 i0 _ 6 48 Try.underlying30 hi0 hz0 hz1 hz2 rfl (by decide) (.slice (some ⟨pt + 1, 0, none⟩) 0 0) 0 [] (by go_simp) HWA.out.2.2.1 ad ls.length c (linksCs ls) (by go_simp) (linksCs_length ls) HLN.out (fun u hu => by
                    obtain ⟨k, hk⟩ := List.mem_iff_getElem?.1 hu
                    have hkl : k < ls.length * 6 := by
                      have := (List.getElem?_eq_some_iff.1 hk).1
                      rwa [linksCs_length] at this
                    have he : k / 6 * 6 + k % 6 = k := by omega
                    rw [← he, linksCs_get ls (k / 6) (k % 6) (by omega) (by omega)] at hk
                    have hm := List.mem_iff_getElem?.2 ⟨_, hk⟩
                    simp only [linkCs, List.mem_cons, List.not_mem_nil, or_false] at hm
                    rcases hm with rfl | rfl | rfl | rfl | rfl | rfl <;> rfl) hL (by have := HL60.out; unfold maxLen; omega) (by have := HL60.out; omega) HWA.out.2.2.2.1 _ rfl ?_
                  intro g cap w7 hown7 hg7 hor hlt7
                  have hown7' : w7.ownsRow pt 88 6 (.slice (some ⟨g, 0, none⟩) ls.length cap) ls.length (linksCs ls) := by simpa using hown7
                  have hgne : g ≠ pt := by
                    rcases hor with e | e
                    · simp only [Value.ownBlock, Option.some.injEq] at e
                      omega
                    · have := HWA.out.2.2.2.2.1
                      omega
                  have hB7 : Below pt wa w7 := (Kp.grown hg7).below HWA.out.2.2.2.1 (fun k hk => by
                    simp only [Value.ownBlock, Option.some.injEq] at hk
                    omega)
                  have hnet7 : w7.heap[pt]? = some (.cells #[.int .i64 n, .int .i64 uu, .slice (some ad) ls.length c] 32 (0, 0)) := (Kp.grown hg7).blk HWA.out.2.1 (fun hk => by
                    simp only [Value.ownBlock, Option.some.injEq] at hk
                    omega)
                  have N2 : w7.cell? ⟨pt, 2, none⟩ = some (.slice (some ad) ls.length c) := blk_cell hnet7 2
                  have N3 : w7.frozen? ⟨pt, 2, none⟩ = false := blk_frozen hnet7 2
                  have H7 : Aside0 (w7.ownsRow pt 88 6 (.slice (some ⟨g, 0, none⟩) ls.length cap) ls.length (linksCs ls) ∧ Below pt wo w7 ∧ g ≠ pt ∧ w7.heap[pt]? = some (.cells #[.int .i64 n, .int .i64 uu, .slice (some ad) ls.length c] 32 (0, 0))) := ⟨hown7', HWA.out.1.trans hB7, hgne, hnet7⟩
                  clear hown7 hg7 hor hlt7 hown7' hgne hB7 hnet7 HLN hi0 hz0 hz1 hz2
                  simp only [Nat.zero_add]
                  go_upto_region 31 with (fail)
                  obtain ⟨w8, hw8⟩ : ∃ x, x = w7.setCell ⟨pt, 2, none⟩ (.slice (some ⟨g, 0, none⟩) ls.length cap) := ⟨_, rfl⟩
                  rw [← hw8]
                  obtain ⟨I, hI⟩ : ∃ I : Nat, Int.tmod l8 (ls.length : Int) = (I : Int) := ⟨(Int.tmod l8 (ls.length : Int)).toNat, by rw [Int.toNat_of_nonneg (Int.tmod_nonneg _ HN8.out.2.1.1)]⟩
                  have hIl : I < ls.length := by have := Int.tmod_lt_of_pos l8 (show 0 < (ls.length : Int) by omega); omega
                  have HIL := Aside0.mk hIl
                  have H8 : Aside0 (w8.ownsRow pt 88 6 (.slice (some ⟨g, 0, none⟩) ls.length cap) ls.length (linksCs ls) ∧ Below pt wo w8 ∧ w8.heap[pt]? = some (.cells #[.int .i64 n, .int .i64 uu, .slice (some ⟨g, 0, none⟩) ls.length cap] 32 (0, 0))) := ⟨by
                    rw [hw8]
                    refine ⟨own_move H7.out.1 (fun k hk => Below.heap_setCell _ _ _ _ (fun e => ?_)), H7.out.2.1.trans ((Kp.setCell w7 pt 2 _).below (by have := H7.out.2.1.size; have := HWA.out.2.2.2.2.2; omega) (fun j e => by omega)), ?_⟩
                    · simp only [Value.ownBlock, Option.some.injEq] at hk
                      have := H7.out.2.2.1
                      simp only at e
                      omega
                    · have := blk_set H7.out.2.2.2 2 (.slice (some ⟨g, 0, none⟩) ls.length cap)
                      simpa using this⟩
                  have HGN := Aside0.mk H7.out.2.2.1
                  clear N2 N3 hw8 H7
                  obtain ⟨hgB, hcap, c2', c3', hfr, hst1, hst2⟩ := own_links_set H8.out.1 (by have := HSM.out.2.1; omega) I hIl
                  have HWT : Aside0 (Below w3.heap.size w3 w8) := ⟨below_step HWo.out.1 (by rw [← HWA.out.2.2.2.2.2]; exact H8.out.2.1)⟩
                  have hT : timedP ls[I].f2.f0 ls[I].f2.f1 := valid_links HV.out _ (List.getElem_mem hIl)
                  obtain ⟨lo0, hlo0⟩ : ∃ x, x = ls[I].f2.f0 := ⟨_, rfl⟩
                  obtain ⟨hi0, hhi0⟩ : ∃ x, x = ls[I].f2.f1 := ⟨_, rfl⟩
                  rw [← hlo0, ← hhi0] at hT
                  rw [← hlo0] at c2'
                  rw [← hhi0] at c3'
                  obtain ⟨a1, ha1⟩ : ∃ x, x = min hi0 (lo0 + n0) := ⟨_, rfl⟩
                  obtain ⟨b1, hb1⟩ : ∃ x, x = max a1 (hi0 - n1) := ⟨_, rfl⟩
                  have hn := HN8.out
                  unfold timedP at hT
                  have hwl8 : wrap64 l8 = l8 := by unfold wrap64; omega
                  have hwI : wrap64 (I : Int) = (I : Int) := by have := HSM.out.2.1; unfold wrap64; omega
                  have hw1 : wrap64 n0 = n0 := by unfold wrap64; omega
                  have hw2 : wrap64 n1 = n1 := by unfold wrap64; omega
                  have hw3 : wrap64 (lo0 + n0) = lo0 + n0 := by unfold wrap64; omega
                  have hw4 : wrap64 (hi0 - n1) = hi0 - n1 := by unfold wrap64; omega
                  have hmin : (if lo0 + n0 < hi0 then lo0 + n0 else hi0) = a1 := by rw [ha1]; split <;> omega
                  have hmax : (if a1 < hi0 - n1 then hi0 - n1 else a1) = b1 := by rw [hb1]; split <;> omega
                  have hl0n : ((ls.length : Int) == 0) = false := by rw [beq_eq_false_iff_ne]; omega
                  have HAB1 := Aside0.mk (And.intro hlo0 (And.intro hhi0 (And.intro ha1 hb1)))
                  have HST := Aside0.mk (And.intro hst1 (And.intro hst2 (And.intro hgB hcap)))
                  have X0 := HBX.out w8 HWT.out
                  have C2 : w8.cell? ⟨bn, 2, none⟩ = some (.slice (some ad) ls.length c) := blk_cell X0.2.2.2.1 2
                  have C6 : w8.cell? ⟨pt, 2, none⟩ = some (.slice (some ⟨g, 0, none⟩) ls.length cap) := blk_cell H8.out.2.2 2
                  have C7 : w8.cell? ⟨ba, 0, none⟩ = some (.int .u16 n0) := blk_cell X0.2.2.2.2.2 0
                  have f2' := hfr (I * 6 + 2)
                  have c3'' : w8.cell? ⟨g, I * 6 + 2 + 1, none⟩ = some (.int .i64 hi0) := c3'
                  clear X0 hst1 hst2 hgB hcap hT hlo0 hhi0 ha1 hb1 hn hfr
                  go_wp2
                  go_quiet (fail)
                  go_wp2
                  generalize hw9 : w8.drewN nq = w9
                  have c2w : w9.cell? ⟨g, I * 6 + 2, none⟩ = some (.int .i64 lo0) := by rw [← hw9]; exact c2'
                  have c3w : w9.cell? ⟨g, I * 6 + 2 + 1, none⟩ = some (.int .i64 hi0) := by rw [← hw9]; exact c3'
                  have c7w : w9.cell? ⟨ba, 0, none⟩ = some (.int .u16 n0) := by rw [← hw9]; exact C7
                  have H9 : Aside0 (w9.ownsRow pt 88 6 (.slice (some ⟨g, 0, none⟩) ls.length cap) ls.length (linksCs ls) ∧ Below pt wo w9 ∧ w9.heap[pt]? = some (.cells #[.int .i64 n, .int .i64 uu, .slice (some ⟨g, 0, none⟩) ls.length cap] 32 (0, 0))) := ⟨by
                    rw [← hw9]
                    exact ⟨H8.out.1, pw_below_drewN H8.out.2.1 nq, H8.out.2.2⟩⟩
                  clear hw9 c2' c3' c3'' f2' C2 C6 C7 H8
                  have hi1 : IntKind.i64.wrap n0 = n0 := by rw [i64_w]; exact hw1
                  have hi2 : IntKind.i64.wrap n1 = n1 := by rw [i64_w]; exact hw2
                  have hi3 : IntKind.i64.wrap (lo0 + n0) = lo0 + n0 := by rw [i64_w]; exact hw3
                  have hi4 : IntKind.i64.wrap (hi0 - n1) = hi0 - n1 := by rw [i64_w]; exact hw4
                  go_still_tail 16, (by kernel_rfl)
                  change wpList _ _ _ _ _ w9.drew
                  generalize hwx : w9.drew = wx
                  have HX : Aside0 (wx.ownsRow pt 88 6 (.slice (some ⟨g, 0, none⟩) ls.length cap) ls.length (linksCs ls) ∧ Below pt wo wx ∧ wx.heap[pt]? = some (.cells #[.int .i64 n, .int .i64 uu, .slice (some ⟨g, 0, none⟩) ls.length cap] 32 (0, 0))) := ⟨by
                    rw [← hwx]
                    exact ⟨H9.out.1, below_drew1 H9.out.2.1, H9.out.2.2⟩⟩
                  obtain ⟨hgB, hcap, c2x, c3x, hfx, hst1, hst2⟩ := own_links_set HX.out.1 (by have := HSM.out.2.1; omega) I HIL.out
                  rw [← HAB1.out.1] at c2x
                  have hf2x := hfx (I * 6 + 2)
                  have hs1 := hst1 a1
                  rw [← HAB1.out.2.1] at hs1
                  have HST2 := Aside0.mk (And.intro (hst2 a1 b1) (And.intro hgB (And.intro hcap hs1)))
                  clear hwx c2w c3w c7w c3x hfx hst1 hst2 hgB hcap hs1
                  go_wp2
                  clear c2x hf2x hmin
                  generalize hwy : wx.setCell ⟨g, I * 6 + 2, none⟩ (.int .i64 a1) = wy
                  have HY : Aside0 (Below pt wo wy ∧ wy.heap[pt]? = some (.cells #[.int .i64 n, .int .i64 uu, .slice (some ⟨g, 0, none⟩) ls.length cap] 32 (0, 0)) ∧ Below w3.heap.size w3 wy) := ⟨by
                    have h1 : Below pt wo wy := by
                      rw [← hwy]
                      exact HX.out.2.1.trans ((Kp.setCell wx g _ _).below (by have := HX.out.2.1.size; have := HWA.out.2.2.2.2.2; omega) (fun j e => by rw [e]; exact HST2.out.2.1))
                    refine ⟨h1, ?_, below_step HWo.out.1 (by rw [← HWA.out.2.2.2.2.2]; exact h1)⟩
                    rw [← hwy]
                    exact blk_far HX.out.2.2 (fun e => HGN.out e.symm) _⟩
                  have c2y : wy.cell? ⟨g, I * 6 + 2, none⟩ = some (.int .i64 a1) := by rw [← hwy]; exact HST2.out.2.2.2.1
                  have c3y : wy.cell? ⟨g, I * 6 + 2 + 1, none⟩ = some (.int .i64 hi0) := by rw [← hwy]; exact HST2.out.2.2.2.2.1
                  have c7y : wy.cell? ⟨ba, 1, none⟩ = some (.int .u16 n1) := blk_cell (HBX.out wy HY.out.2.2).2.2.2.2.2 1
                  have hfz : wy.drew.frozen? ⟨g, I * 6 + 2 + 1, none⟩ = false := by rw [← hwy]; exact HST2.out.2.2.2.2.2 (I * 6 + 3)
                  have c3z : wy.drew.cell? ⟨g, I * 6 + 2 + 1, none⟩ = some (.int .i64 hi0) := c3y
                  have HZ := Aside0.mk (And.intro hfz c3z)
                  clear hfz c3z
                  go_still_tail 16, (by kernel_rfl)
                  change wpList _ _ _ _ _ wy.drew
                  generalize hwz : wy.drew = wz
                  rw [hwz] at HZ
                  have hfz := HZ.out.1
                  have c3z := HZ.out.2
                  clear c2y c3y c7y
                  go_wp2_with ((with_reducible refine gate_dst (N := 227) rfl ?_); refine hold ?_)
                  obtain ⟨wt, hwt⟩ : ∃ x, x = wz.setCell ⟨g, I * 6 + 2 + 1, none⟩ (.int .i64 b1) := ⟨_, rfl⟩
                  rw [← hwt]
                  have HT : Aside0 (Below w3.heap.size w3 wt ∧ LinksAt wt (some ⟨g, 0, none⟩) (tightL ls I n0 n1) ∧ wt.heap[pt]? = some (.cells #[.int .i64 n, .int .i64 uu, .slice (some ⟨g, 0, none⟩) ls.length cap] 32 (0, 0)) ∧ DuesAt wt Ab bb) := ⟨by
                    have e : wt = ((wx.setCell ⟨g, I * 6 + 2, none⟩ (.int .i64 a1)).setCell ⟨g, I * 6 + 3, none⟩ (.int .i64 b1)).drew := by rw [hwt, ← hwz, ← hwy]; rfl
                    have h1 : Below pt wo wt := by
                      rw [hwt]
                      refine Below.trans (b := wz) (by rw [← hwz]; exact below_drew1 HY.out.1) ((Kp.setCell wz g _ _).below (by rw [← hwz]; have := HY.out.1.size; have := HWA.out.2.2.2.2.2; show pt ≤ wy.heap.size; omega) (fun j e => by rw [e]; exact HST2.out.2.1))
                    have h2 : Below wo.heap.size wo wt := by rw [← HWA.out.2.2.2.2.2]; exact h1
                    refine ⟨below_step HWo.out.1 h2, ?_, ?_, Kd.C_below HWo.out.2.2 h2⟩
                    · have e2 : tightL ls I n0 n1 = ls.set I { ls[I]'HIL.out with f2 := { (ls[I]'HIL.out).f2 with f0 := a1, f1 := b1 } } := by
                        unfold tightL tightK
                        rw [List.getElem?_eq_getElem HIL.out, HAB1.out.2.2.2, HAB1.out.2.2.1, HAB1.out.1, HAB1.out.2.1]
                      rw [e2, e]
                      exact Kd.C_below HST2.out.1 (below_drew1 (Below.refl _ _))
                    · rw [hwt]
                      exact blk_far (by rw [← hwz]; exact HY.out.2.1) (fun e => HGN.out e.symm) _⟩
                  have hX1 := HBX.out wt HT.out.1
                  have C0 : wt.cell? ⟨pt, 0, none⟩ = some (.int .i64 n) := blk_cell HT.out.2.2.1 0
                  have C1 : wt.cell? ⟨pt, 1, none⟩ = some (.int .i64 uu) := blk_cell HT.out.2.2.1 1
                  have C2 : wt.cell? ⟨pt, 2, none⟩ = some (.slice (some ⟨g, 0, none⟩) ls.length cap) := blk_cell HT.out.2.2.1 2
                  have C3 : wt.cell? ⟨bs, 0, none⟩ = some (.int .i64 sn) := blk_cell hX1.2.2.2.2.1 0
                  have C4 : wt.cell? ⟨bs, 1, none⟩ = some (.int .i64 lo) := blk_cell hX1.2.2.2.2.1 1
                  have C5 : wt.cell? ⟨bs, 2, none⟩ = some (.int .i64 hi) := blk_cell hX1.2.2.2.2.1 2
                  obtain ⟨c3, hc3⟩ : ∃ x, x = worstS n (tightL ls I n0 n1) sn lo hi st F := ⟨_, rfl⟩
                  have hvt := tight_valid HV.out HIL.out HN8.out.2.2.1.1 HN8.out.2.2.2.1
                  have HW3 : Aside0 (Calls Try.prog 16 #[.agg #[.int .i64 n, .int .i64 uu, .slice (some ⟨g, 0, none⟩) ls.length cap], .agg #[.int .i64 sn, .int .i64 lo, .int .i64 hi], .slice A2 st.length c2, .int .i64 F] wt fun e w' => ∃ A c, e = .returned (.tuple #[.slice A c3.length c, .int .i64 0]) ∧ c3.length ≤ c ∧ DuesAt w' A c3 ∧ Below wt.heap.size wt w') := ⟨by
                    have := Worst_any n uu (some ⟨g, 0, none⟩) cap (tightL ls I n0 n1) sn lo hi A2 c2 st F wt HT.out.2.1 (by rw [tight_len]; exact HST2.out.2.2.1) hX1.2.2.1 HR.out.2.2.2 hvt
                    rw [tight_len, ← hc3] at this
                    exact this⟩
                  have HC3 : Aside0 (c3.length = bb.length ∧ ∀ (j : Nat) p q, bb[j]? = some p → c3[j]? = some q → p.f0 ≤ q.f0 ∧ q.f1 ≤ p.f1) := ⟨by
                    refine ⟨by rw [hc3, worstS_len hvt, HLEN.out.2], fun j p q hp hq => ?_⟩
                    rw [hc3] at hq
                    rw [HLEN.out.1] at hp
                    exact worst_tight HV.out HIL.out HN8.out.2.2.1.1 HN8.out.2.2.2.1 j p q hp hq⟩
                  have hcb3 : ((c3.length : Int) != (bb.length : Int)) = false := by simp [HC3.out.1]
                  have hle3 : bb.length ≤ 64 := by have := HLEN.out.2; have := (valid_st HV.out).1.net.n2; omega
                  have HLE3 := Aside0.mk hle3
                  clear hX1 hvt hc3 hwt hwz hwy hfz c3z HZ HST2 HY HX H9 hmax hi1 hi2 hi3 hi4 hw1 hw2 hw3 hw4 hwl8 hwI hI hl0n hle3
                  refine unhold ?_
                  go_wp2_with fail
                  refine HW3.out.mono ?_
                  rintro e wv ⟨A3, k3, rfl, hk3, hA3, hbv⟩
                  have H3 := Aside0.mk (And.intro hk3 (And.intro hA3 (And.intro (Kd.C_below HT.out.2.2.2 hbv) (below_step HT.out.1 hbv))))
                  clear C0 C1 C2 C3 C4 C5 hbv hk3 hA3 HW3
                  go_wp2_with fail
                  go_loopw [28] (fun v wr => ∃ i : Nat, v = .int .i64 i ∧ i ≤ bb.length ∧ Aside0 (Below wv.heap.size wv wr)) (fun v _ => bb.length - (intOf v).toNat)
                  case atStart => exact ⟨0, rfl, Nat.zero_le _, ⟨Below.refl _ _⟩⟩
                  case round =>
                    obtain ⟨i, rfl, hile, HI⟩ := hrel
                    obtain ⟨wq, rfl⟩ : ∃ wq, wq = wr := ⟨_, rfl⟩
                    by_cases hgo : i < bb.length
                    · have hwi : IntKind.i64.wrap ((i : Int) + 1) = (i : Int) + 1 := by have := HLE3.out; rw [i64_w]; unfold wrap64; omega
                      have hgoc : i < c3.length := by have := HC3.out.1; omega
                      have hpq := HC3.out.2 i bb[i] c3[i] (List.getElem?_eq_getElem hgo) (List.getElem?_eq_getElem hgoc)
                      obtain ⟨p, hp⟩ : ∃ p, p = bb[i] := ⟨_, rfl⟩
                      obtain ⟨q, hq⟩ : ∃ q, q = c3[i] := ⟨_, rfl⟩
                      rw [← hp, ← hq] at hpq
                      have hrp : PB.rd_T41 bb (i : Int) = p := by rw [hp]; simp [PB.rd_T41, List.getElem?_eq_getElem hgo]
                      have hrq : PB.rd_T41 c3 (i : Int) = q := by rw [hq]; simp [PB.rd_T41, List.getElem?_eq_getElem hgoc]
                      have e1 := PB.at_T41 (Kd.C_below H3.out.2.2.1 HI.out) (i : Int) (by omega) (by omega)
                      have e2 := PB.at_T41 (Kd.C_below H3.out.2.1 HI.out) (i : Int) (by omega) (by omega)
                      rw [hrp, Int.toNat_natCast] at e1
                      rw [hrq, Int.toNat_natCast] at e2
                      obtain ⟨ad1, rfl, k1, k2⟩ := e1
                      obtain ⟨ad2, rfl, k3', k4⟩ := e2
                      have hd1 : decide (q.f0 < p.f0) = false := decide_eq_false (by omega)
                      have hd2 : decide (p.f1 < q.f1) = false := decide_eq_false (by omega)
                      clear hp hq hrp hrq hpq
                      go_wp2
                      repeat (go_quiet (fail); try go_wp2)
                      go_roundw
                      case rel => exact ⟨i + 1, by go_num, by omega, ⟨pw_below_drewN HI.out _⟩⟩
                      case measure => simp [intOf]; omega
                    · obtain rfl : i = bb.length := by omega
                      have HQ := Aside0.mk (below_step H3.out.2.2.2 HI.out)
                      clear hile hgo HI H3 HC3 hcb3
                      go_wp2_with fail
                      refine (works_calls _).mono ?_
                      rintro e wk ⟨rfl, hbk⟩
                      have HK := Aside0.mk (HBX.out _ (below_step HQ.out hbk)).1
                      clear hbk
                      go_wp2
                      go_ret
                      exact ⟨rfl, HK.out⟩
            · have hL0 : ((ls.length : Int) == 0) = true := by rw [beq_iff_eq]; omega
              clear C0 C1
              go_wp2_with fail
              refine (works_calls _).mono ?_
              rintro e wf ⟨rfl, hbf⟩
              have Hf := Aside0.mk (HBX.out _ (below_step HDw.out hbf)).1
              clear hbf
              go_wp2
              go_ret
              exact ⟨rfl, Hf.out⟩
      · have HW : Aside0 (Calls Try.prog 16 #[.agg #[.int .i64 nn, .int .i64 uu, .slice A ls.length c], .agg #[.int .i64 sn, .int .i64 lo, .int .i64 hi], .slice A2 st.length c2, .int .i64 f] w5 fun e w' => e = .returned (.tuple #[.slice none 0 0, .int .i64 (validE nn uu ls sn lo hi st f)]) ∧ Below w5.heap.size w5 w') := ⟨by
          have X0 := HBX.out w5 H5.out
          exact Worst_err nn uu A c ls sn lo hi A2 c2 st f w5 X0.2.1 HR.out.2.1 X0.2.2.1 HR.out.2.2.2 hv⟩
        have hv1 : (validE nn uu ls sn lo hi st f != 0) = true := by simpa using hv
        clear hv
        go_wp2_with fail
        refine HW.out.mono ?_
        rintro e w6 ⟨rfl, hb6⟩
        have H6 := Aside0.mk (below_step H5.out hb6)
        clear C0 C1 C2 C3 C4 C5 hb6
        go_wp2_with fail
        refine (works_calls _).mono ?_
        rintro e w7 ⟨rfl, hb7⟩
        have H7 := Aside0.mk (HBX.out _ (below_step H6.out hb7)).1
        clear hb7
        go_wp2
        go_ret
        exact ⟨rfl, H7.out⟩
    · have hd : (checkE nn uu ls != 0) = true := by simpa using hck
      clear hck
      go_wp2_with fail
      refine (works_calls _).mono ?_
      rintro e w6 ⟨rfl, hb6⟩
      have H6 := Aside0.mk (HBX.out _ (below_step H5.out hb6)).1
      clear hb6
      go_wp2
      go_ret
      exact ⟨rfl, H6.out⟩
  · have HS : Aside0 (Calls Try.prog 28 #[.agg #[.int .i64 nn, .int .i64 uu, .slice A ls.length c], .slice A2 st.length c2, .int .i64 f] w3 fun e w' => e = .returned (.bool false) ∧ Below w3.heap.size w3 w') := ⟨by
      have X0 := HBX.out w3 (Below.refl _ _)
      have := small_any nn uu A c ls A2 c2 st f w3 X0.2.1 HR.out.2.1 X0.2.2.1 HR.out.2.2.2
      rw [decide_eq_false hsm] at this
      exact this⟩
    clear hsm
    go_wp2_with fail
    refine HS.out.mono ?_
    rintro e w4 ⟨rfl, hb4⟩
    have H4 := Aside0.mk hb4
    clear C0 C1 C2 hb4
    go_wp2_with fail
    refine (works_calls _).mono ?_
    rintro e w5 ⟨rfl, hb5⟩
    have H5 := Aside0.mk (HBX.out _ (below_step H4.out hb5)).1
    clear hb5
    go_wp2
    go_ret
    exact ⟨rfl, H5.out⟩
end Go.Proofs.Ytgmglpnoppcnkaa
