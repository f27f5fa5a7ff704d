/- choose's closure where elements are left to choose. -/
import Derived.Test.YtgmglpnoppcnkaaC2
namespace Go.Proofs.Ytgmglpnoppcnkaa
open Go.RowKit Go.Proofs.YtgmglpnoppcnkaaW.PrintWords Go.Proofs.YtgmglpnoppcnkaaW.PrintLast Go.Proofs.YtgmglpnoppcnkaaW.PrintMore
set_option linter.unusedVariables false
set_option linter.unusedSimpArgs false
set_option maxRecDepth 100000
attribute [local go_sem] Oper.semAt_some

theorem app_below {W2 Wc w5 : World} {v : Value} {n : Nat} {xs : List Value} (hH : Below W2.heap.size W2 Wc) (ho : Wc.ownsRow W2.heap.size 3 1 v n xs) (hg : Wc.grownBy w5 v.ownBlock) : Below W2.heap.size W2 w5 :=
  hH.trans ((Kp.grown hg).below hH.size (fun k hk => own_base ho k hk.symm))
theorem own_ints {w : World} {B g cap n : Nat} {x : List Int} (h : w.ownsRow B 3 1 (.slice (some ⟨g, 0, none⟩) n cap) n (ints x)) (hn : n ≤ 9223372036854775807) : IntsAt w (some ⟨g, 0, none⟩) x := by
  have hl : x.length = n := by have := h.1; rw [ints_len] at this; omega
  refine ⟨rfl, by omega, fun _ => ⟨_, rfl, fun j p hj => ⟨[.int .i64 p], rfl, rfl, fun i u hu => ?_⟩⟩⟩
  have hi0 : i = 0 := by
    have := (List.getElem?_eq_some_iff.1 hu).1
    simp at this; omega
  subst hi0
  have hjl : j < x.length := (List.getElem?_eq_some_iff.1 hj).1
  have e2 : (Kd.int .i64).sz = 1 := rfl
  rw [e2, Nat.mul_one, Nat.add_zero, Addr.add_mid, Nat.zero_add, h.cellAt j (by omega)]
  rw [List.getElem?_eq_getElem hjl] at hj
  have hu' : Value.int .i64 p = u := by simpa using hu
  have hp : x[j] = p := by simpa using hj
  simp [ints, hjl, ← hu', hp]
theorem own_cap {w : World} {B g cap n e size : Nat} {xs : List Value} (h : w.ownsRow B e size (.slice (some ⟨g, 0, none⟩) n cap) n xs) : n ≤ cap ∧ B ≤ g := by
  rcases h.2 with ⟨e3, _⟩ | ⟨g', cap', cur, hv, hb, hg, hc, hm, hs, ht⟩
  · simp at e3
  · simp only [Value.slice.injEq, Option.some.injEq, Addr.mk.injEq, and_true, true_and] at hv
    omega
theorem ints_drop {w : World} {ad : Addr} {l : List Int} (h : IntsAt w (some ad) l) (c i : Nat) (hi : i + 1 ≤ l.length) (hc : l.length ≤ c) : IntsAt w (if c = i + 1 then some ad else some ⟨ad.block, ad.off + (i + 1), none⟩) (l.drop (i + 1)) := by
  have h2 := h.2.1
  refine ⟨rfl, by rw [List.length_drop]; omega, fun h0 => ?_⟩
  rw [List.length_drop] at h0
  rw [if_neg (by omega)]
  refine ⟨_, rfl, fun j p hj => ⟨[.int .i64 p], rfl, rfl, fun q u hu => ?_⟩⟩
  have hq0 : q = 0 := by
    have := (List.getElem?_eq_some_iff.1 hu).1
    simp at this; omega
  subst hq0
  have e2 : (Kd.int .i64).sz = 1 := rfl
  rw [e2, Nat.mul_one, Nat.add_zero]
  rw [List.getElem?_drop] at hj
  have hjl : i + 1 + j < l.length := (List.getElem?_eq_some_iff.1 hj).1
  obtain ⟨ad', ea, hcell⟩ := int_get h (i + 1 + j) hjl
  cases ea
  rw [List.getElem?_eq_getElem hjl] at hj
  have hp : l[i + 1 + j] = p := by simpa using hj
  have hu' : Value.int .i64 p = u := by simpa using hu
  rw [← hu', ← hp, ← hcell]
  congr 1
  unfold Addr.add
  rw [if_neg (show ¬ (i + 1 + j = 0) by omega)]
  split
  · rename_i hj0; subst hj0; simp
  · simp; omega
theorem kp_below {a b c : World} {S : Nat → Prop} (h : Kp a b S) (k : Below a.heap.size b c) : Kp a c S :=
  ⟨k.os.trans h.os, k.tape.trans h.tape, k.output.trans h.output, Nat.le_trans h.size k.size, fun i hi hn => (k.block i hi).trans (h.block i hi hn)⟩
/-- At the head of the loop over the elements. -/
structure ChInv (y B : Nat) (M : Nat → Prop) (J : Nat → World → Prop) (W1 : World) (yb : Nat) (k : Nat) (l ch : List Int) (i p : Nat) (Ds : List Nat) (W : World) : Prop where
  kp : Kp W1 W M
  j : J p W
  drop : (chooseL (k + 1) l ch).drop p = chooseL (k + 1) (l.drop i) ch
  ple : p ≤ (chooseL (k + 1) l ch).length
  nodup : Ds.Nodup
  marks : ∀ D ∈ Ds, W.heap[D]? = some (.deferred (some [])) ∧ B ≤ D

/-- The loop's frame. -/
def ChLoop (y B kb cb lb : Nat) (M : Nat → Prop) (J : Nat → World → Prop) (W1 : World) (k : Nat) (l ch : List Int) (A1 : Option Addr) (c1 : Nat) (a : Act) (W : World) : Prop :=
  ∃ (i p : Nat) (Ds : List Nat) (u5 u6 u7 u16 u17 u18 u19 u20 u21 u22 u23 u24 u25 u26 u27 u28 u29 u30 u31 u32 u33 u34 u35 u36 u37 : Value), i ≤ l.length ∧ a = { tmps := #[.func (.yield y) #[] #[], .pointer (some ⟨kb, 0, none⟩), .pointer (some ⟨cb, 0, none⟩), .pointer (some ⟨lb, 0, none⟩), .pointer (some ⟨B, 0, none⟩), u5, u6, u7, .int .i64 ((k : Int) + 1), .bool false, undef, undef, undef, .slice A1 l.length c1, .int .i64 (l.length : Int), .int .i64 (i : Int), u16, u17, u18, u19, u20, u21, u22, u23, u24, u25, u26, u27, u28, u29, u30, u31, u32, u33, u34, u35, u36, u37], defers := Ds.map mk } ∧ Aside0 (ChInv y B M J W1 B k l ch i p Ds W)
def chMu (l : List Int) (a : Act) : Nat := l.length - (intOf (a.tmps.getD 15 undef)).toNat

set_option maxHeartbeats 8000000 in
theorem choose1_succ (k : Nat) (ih : ∀ (kb cb lb : Nat) (l ch : List Int) (A1 A2 : Option Addr) (c1 c2 : Nat) (W0 : World), ChCtx W0 kb cb lb k l ch A1 c1 A2 c2 →
      IterOk 129 #[.pointer (some ⟨kb, 0, none⟩), .pointer (some ⟨cb, 0, none⟩), .pointer (some ⟨lb, 0, none⟩)] (chooseL k l ch) (ChRd kb cb lb A1 A2) W0)
    (kb cb lb : Nat) (l ch : List Int) (A1 A2 : Option Addr) (c1 c2 : Nat) (W0 : World) (hc : ChCtx W0 kb cb lb (k + 1) l ch A1 c1 A2 c2) :
    IterOk 129 #[.pointer (some ⟨kb, 0, none⟩), .pointer (some ⟨cb, 0, none⟩), .pointer (some ⟨lb, 0, none⟩)] (chooseL (k + 1) l ch) (ChRd kb cb lb A1 A2) W0 := by
  intro y B M J Jx W hW hB hJ hJx hR hM h0
  have hcW := hc.below hW
  have hk1000 := hc.k20
  have hl20 := hc.l20
  refine (callsIn_wide (n := 0)).1 (callsIn_of_wp_marks Try.func129 rfl trivial ?_ rfl)
  simp only [Try.ntmps129, List.size_toArray, List.length_cons, List.length_nil, Nat.reduceAdd, Nat.reduceSub, Array.replicate_succ, Array.replicate_zero, List.push_toArray, List.append_toArray, List.nil_append, List.cons_append]
  obtain ⟨W1, hW1⟩ : ∃ W1, W1 = W.alloc (.cells #[.func (.yield y) #[] #[]] 221) := ⟨_, rfl⟩
  have hb1 : Below W.heap.size W W1 := by rw [hW1]; exact below_alloc (Below.refl _ _) _
  have hc1 := hcW.below hb1
  have hyb : W1.heap[B]? = some (.cells #[.func (.yield y) #[] #[]] 221 (0, 0)) := by rw [hW1, ← hB]; exact blk_new W _
  have e0 : W1.cell? ⟨kb, 0, none⟩ = some (.int .i64 ((k + 1 : Nat) : Int)) := blk_cell hc1.hkb 0
  have e1 : W1.cell? ⟨lb, 0, none⟩ = some (.slice A1 l.length c1) := blk_cell hc1.hlb 0
  have hj1 : J 0 W1 := hJ _ _ _ h0 (hb1.mono (by omega))
  have hsz : B + 1 ≤ W1.heap.size := by have := blk_lt hyb; omega
  have hk0 : ((k : Int) + 1 == 0) = false := by simp; omega
  have HC1 := Aside0.mk hc1
  have HYB := Aside0.mk hyb
  have HST := Aside0.mk (And.intro hJ hJx)
  have HR := Aside0.mk hR
  have HM := Aside0.mk hM
  have HI0 : Aside0 (ChInv y B M J W1 B k l ch 0 0 [] W1) := ⟨⟨Kp.refl _ _, hj1, rfl, Nat.zero_le _, List.nodup_nil, by simp⟩⟩
  have HBB := Aside0.mk hB
  rw [hW1] at e0 e1
  have HW1 := Aside0.mk hW1
  clear hc hcW hc1 hyb hj1 h0 hb1 hJ hJx hR hM hW
  gi_wp2
  refine wpIn_wide.2 (wp_scope_straight ((wpIn_wide (n := 0)).1 ?_))
  clear hB hW1
  gi_wp2
  refine wpIn_wide.2 (wp_label ?_)
  gi_wp2
  rw [← HW1.out]
  clear e0 e1 hk0
  refine wpIn_loop (ChLoop y B kb cb lb M J W1 k l ch A1 c1) (fun a _ => chMu l a) ⟨0, 0, [], undef, undef, undef, undef, undef, undef, undef, undef, undef, undef, undef, undef, undef, undef, undef, undef, undef, undef, undef, undef, undef, undef, undef, undef, undef, Nat.zero_le _, rfl, HI0⟩ ?_
  clear HI0
  rintro _ W2 ⟨i, p, Ds, u5, u6, u7, u16, u17, u18, u19, u20, u21, u22, u23, u24, u25, u26, u27, u28, u29, u30, u31, u32, u33, u34, u35, u36, u37, hile, rfl, HI⟩
  have hctx := HC1.out.keep HI.out.kp (fun i hi => (HM.out i hi).2)
  by_cases hgo : i < l.length
  · obtain ⟨u, hu⟩ : ∃ u, l[i] = u := ⟨_, rfl⟩
    obtain ⟨ad, rfl, e0⟩ := int_get hctx.hl i hgo
    rw [hu] at e0
    have HU := Aside0.mk (And.intro hu hctx)
    have hdg : decide ((i : Int) < (l.length : Int)) = true := by simp; exact hgo
    have C0 : ∀ W, Below W2.heap.size W2 W → W.cell? ⟨lb, 0, none⟩ = some (.slice (some ad) l.length c1) := fun W h => blk_cell (HU.out.2.below h).hlb 0
    have C1 : ∀ W, Below W2.heap.size W2 W → W.cell? ⟨kb, 0, none⟩ = some (.int .i64 ((k + 1 : Nat) : Int)) := fun W h => blk_cell (HU.out.2.below h).hkb 0
    have C2 : ∀ W, Below W2.heap.size W2 W → W.cell? ⟨cb, 0, none⟩ = some (.slice A2 ch.length c2) := fun W h => blk_cell (HU.out.2.below h).hcb 0
    have hwi : IntKind.i64.wrap ((i : Int) + 1) = (i : Int) + 1 := by rw [i64_w]; unfold wrap64; omega
    have hwk : IntKind.i64.wrap (k : Int) = (k : Int) := by rw [i64_w]; unfold wrap64; omega
    have hlc := HU.out.2.lc
    have hchl := HU.out.2.ck
    have hs1 : (0 : Int) ≤ (i : Int) + 1 := by omega
    have hs2 : (i : Int) + 1 ≤ (l.length : Int) := by omega
    have hs3 : (l.length : Int) ≤ (c1 : Int) := by omega
    have hs4 : i + 1 ≤ l.length := hgo
    have hu33 := Try.underlying33
    obtain ⟨A1', hA1⟩ : ∃ A1' : Option Addr, (if c1 = i + 1 then some ad else some (⟨ad.block, ad.off + (i + 1), none⟩ : Addr)) = A1' := ⟨_, rfl⟩
    have HA1 := Aside0.mk hA1
    clear hu hctx
    gi_wp2
    obtain ⟨i3, hi3, hy0, hy1, hy2⟩ := info_parts info3
    refine wpIn_wide.2 ?_
    clear e0 hdg
    go_region_held3 (fun W => Below W2.heap.size W2 W) (first | exact below_drew1 (Below.refl _ _) | exact below_step (by assumption) (by assumption) | assumption | exact below_drew1 (below_alloc (Below.refl _ _) _) | exact below_alloc (by assumption) _) (first
      | (go_at_call 98; refine (clone_any A2 c2 ch _ (HU.out.2.below (by assumption)).hch HU.out.2.nil (by omega)).mono ?_; rintro e Wc ⟨v, rfl, how0, hbc⟩; have how := Aside0.mk (own_less how0 (show W2.heap.size ≤ _ by first | exact Nat.le_refl _ | simp)); clear how0)
      | (refine step_append_lies _ rfl (.tmp 27) (.tmp 29) 33 rfl W2.heap.size 3 i3 _ 1 8 Try.underlying33 hi3 hy0 hy1 hy2 rfl (by decide) v ch.length (ints ch) (by go_simp) (how.out.alloc _) ⟨Wc.heap.size, 0, none⟩ 1 1 [.int .i64 u] (by go_simp) rfl (World.news_of_block (w := Wc.alloc (.cells #[.int .i64 u] 3)) (cs := #[.int .i64 u]) (blk_new Wc _)) (by simp [Value.oneCell']) (by decide) (by unfold maxLen; omega) (by omega) (Below.size (B := W2.heap.size) (w := W2) (by assumption)) _ rfl ?_; intro g cap w5 hown5 hg5 hor hlt5; have hk5 : Below W2.heap.size W2 w5 := app_below (by assumption) (how.out.alloc _) hg5; have HO5 := Aside0.mk hown5; clear hown5 hg5 hor hlt5)
      | (refine step_append_lies _ rfl (.tmp 27) (.tmp 29) 33 rfl W2.heap.size 3 i3 _ 1 8 Try.underlying33 hi3 hy0 hy1 hy2 rfl (by decide) v ch.length (ints ch) (by go_simp) how.out ⟨W2.heap.size, 0, none⟩ 1 1 [.int .i64 u] (by go_simp) rfl (World.news_of_block (w := Wc) (cs := #[.int .i64 u]) (blk_below (blk_drew (blk_new W2 _)) hbc)) (by simp [Value.oneCell']) (by decide) (by unfold maxLen; omega) (by omega) (Below.size (B := W2.heap.size) (w := W2) (by assumption)) _ rfl ?_; intro g cap w5 hown5 hg5 hor hlt5; have hk5 : Below W2.heap.size W2 w5 := app_below (by assumption) how.out hg5; have HO5 := Aside0.mk hown5; clear hown5 hg5 hor hlt5)
      | (go_at_call 123; refine (choose_calls _ _ _ _ ⟨_, _, _, rfl⟩ ⟨_, _, _, rfl⟩).mono ?_; rintro e W6 ⟨lb', kb', cb', rfl, hb6, hch60⟩; have hch6 := Aside0.mk hch60; clear hch60))
    generalize (Value.slice (some ⟨Wc.heap.size, 0, none⟩) 1 1) = s29
    rotate_left
    generalize (Value.slice (some ⟨W2.heap.size, 0, none⟩) 1 1) = s29
    rotate_left
    all_goals
      have hsz2 : B + 1 ≤ W2.heap.size := Nat.le_trans hsz HI.out.kp.size
      have hcap := own_cap HO5.out
      obtain ⟨q1, q2, q3, q4, q5, q6⟩ := hch6.out
      have hs5 := hk5.size
      have hlen1 : (l.drop (i + 1)).length = l.length - (i + 1) := List.length_drop
      have hlen2 : (ch ++ [u]).length = ch.length + 1 := by simp
      have hctx6 : ChCtx W6 kb' cb' lb' k (l.drop (i + 1)) (ch ++ [u]) A1' (c1 - (i + 1)) (some ⟨g, 0, none⟩) cap := by
        refine ⟨q2, by rw [hlen2]; exact q3, by rw [hlen1]; exact q1, ?_, ?_, by rw [hlen1]; omega, by rw [hlen2]; exact hcap.1, fun e => by simp at e, fun _ => ⟨_, rfl⟩, by omega, by rw [hlen1]; omega, by rw [hlen2]; omega⟩
        · rw [← HA1.out]; exact ints_drop (Kd.C_below HU.out.2.hl (below_step hk5 hb6)) c1 i hgo hlc
        · refine Kd.C_below (own_ints (B := W2.heap.size) (cap := cap) (n := ch.length + 1) (x := ch ++ [u]) ?_ (by omega)) hb6
          have := HO5.out
          simpa [ints] using this
      have hctxA := Aside0.mk hctx6
      have hM6 : ∀ j, M j → j < W6.heap.size ∧ ¬ ChRd kb' cb' lb' A1' (some ⟨g, 0, none⟩) j := by
        intro j hj
        have h1 := HM.out j hj
        have h6 := hb6.size
        refine ⟨by omega, ?_⟩
        rintro (e | e | e | ⟨a, ea, e⟩ | ⟨a, ea, e⟩)
        · omega
        · omega
        · omega
        · refine h1.2 (.inr (.inr (.inr (.inl ⟨ad, rfl, ?_⟩))))
          rw [← HA1.out] at ea
          rw [← e]
          split at ea <;> (cases ea; rfl)
        · cases ea
          simp only at e
          omega
      have hy6 : W6.heap[B]? = some (.cells #[.func (.yield y) #[] #[]] 221 (0, 0)) := blk_below (blk_below (HI.out.kp.blk HYB.out (fun e => by have := (HM.out _ e).1; omega)) hk5) hb6
      have HY6 := Aside0.mk hy6
      have HM6 := Aside0.mk hM6
      have HS6 : Aside0 (B + 1 ≤ W6.heap.size) := ⟨by have := hb6.size; omega⟩
      have HB6 := Aside0.mk (below_step hk5 hb6)
      clear hctx6 hM6 hy6 q1 q2 q3 q4 q5 q6 hs5 hlen1 hlen2 hcap hch6 HO5 how hbc hb6 hk5 hs1 hs2 hs3 hs4 hA1 C0 C1 C2 hwk
      gi_wp2
      refine wpIn_wide.2 (range_law (gf := 129) (lb := #[.pointer (some ⟨kb', 0, none⟩), .pointer (some ⟨cb', 0, none⟩), .pointer (some ⟨lb', 0, none⟩)]) rfl (callFunc_enter Try.func129 (by kernel_rfl) rfl) (ih kb' cb' lb' (l.drop (i + 1)) (ch ++ [u]) A1' (some ⟨g, 0, none⟩) (c1 - (i + 1)) cap W6 hctxA.out) M HM6.out
        (fun k' W' => J (p + k') W' ∧ Kp W6 W' M) (fun c k' W' => c = .exit 0 ∧ Jx (p + k') W' ∧ Kp W6 W' (fun i => i < B)) ?hI ?hIx ?h0
        (fun vv => { tmps := #[.func (.yield y) #[] #[], .pointer (some ⟨kb, 0, none⟩), .pointer (some ⟨cb, 0, none⟩), .pointer (some ⟨lb, 0, none⟩), .pointer (some ⟨B, 0, none⟩), .int .i64 (i : Int), .int .i64 u, vv, .int .i64 ((k : Int) + 1), .bool false, undef, undef, undef, .slice (some ad) l.length c1, .int .i64 (l.length : Int), .int .i64 (i : Int), .bool true, .int .i64 (i : Int), .pointer (some (ad.add i)), .int .i64 u, .slice (some ad) l.length c1, .int .i64 (i : Int), .int .i64 ((i : Int) + 1), .slice A1' (l.length - (i + 1)) (c1 - (i + 1)), .int .i64 ((k : Int) + 1), .int .i64 (k : Int), .slice A2 ch.length c2, v, .int .i64 u, s29, .slice (some ⟨g, 0, none⟩) (ch.length + 1) cap, .func (.func 129) #[] #[.pointer (some ⟨kb', 0, none⟩), .pointer (some ⟨cb', 0, none⟩), .pointer (some ⟨lb', 0, none⟩)], vv, u33, u34, u35, u36, u37], defers := [] }) ?assign ?body ?done ?stop)
      case hI => exact fun k' Wa Wb h hb => ⟨HST.out.1 _ _ _ h.1 (hb.mono (by have := HS6.out; omega)), kp_below h.2 hb⟩
      case hIx => exact fun c k' Wa Wb h hb hck => ⟨h.1, HST.out.2 _ _ _ h.2.1 (hb.mono (by have := HS6.out; omega)) hck, kp_below h.2.2 hb⟩
      case h0 => exact ⟨HST.out.1 _ _ _ HI.out.j (HB6.out.mono (by omega)), Kp.refl _ _⟩
      case assign =>
        intro lr vv Wa K hK
        gi_wp2
        exact hK
      case body =>
        rintro lr k' x A c Wa ⟨hj, hk⟩ hx hA hcx hszW
        have hx' : (chooseL (k + 1) l ch)[p + k']? = some x := by
          have hdr := HI.out.drop
          rw [List.drop_eq_getElem_cons hgo, chooseL_cons, HU.out.1] at hdr
          have h1 : ((chooseL (k + 1) l ch).drop p)[k']? = some x := by
            rw [hdr, List.getElem?_append_left (List.getElem?_eq_some_iff.1 hx).1]
            exact hx
          rwa [List.getElem?_drop] at h1
        obtain ⟨fn, tmps, assign, body, hy, hRd⟩ := HR.out (p + k') x Wa A c hj hx' hA hcx (by have := HS6.out; have := hk.size; omega)
        have e0 : Wa.cell? ⟨B, 0, none⟩ = some (.func (.yield y) #[] #[]) := blk_cell (hk.blk HY6.out (fun e => by have := (HM.out _ e).1; omega)) 0
        have HKA := Aside0.mk (And.intro hk hj)
        clear hj hk hx hA hcx hx'
        gi_wp2
        refine ⟨rfl, hRd.mono ?_⟩
        clear hy hRd e0
        rintro e Wb (⟨rfl, hj', hk'⟩ | ⟨rfl, hj', hk'⟩)
        · gi_wp2
          exact ⟨⟨hj', HKA.out.1.trans hk' (fun _ h => h) (fun _ _ h => h)⟩, hk'⟩
        · gi_wp2
          exact ⟨⟨rfl, hj', HKA.out.1.trans hk' (fun j h => (HM.out j h).1) (fun _ _ h => h)⟩, hk'.mono (fun j _ h => by have := HS6.out; omega)⟩
      case done =>
        rintro Wa hszW ⟨hj, hk⟩ hd
        have HD := Aside0.mk (And.intro hszW (And.intro hj (And.intro hk hd)))
        clear hszW hj hk hd
        gi_wp2
        obtain ⟨hszW, hj, hk, hd⟩ := HD.out
        have hdr := HI.out.drop
        rw [List.drop_eq_getElem_cons hgo, chooseL_cons, HU.out.1] at hdr
        have hlen := congrArg List.length hdr
        rw [List.length_drop, List.length_append] at hlen
        have hple := HI.out.ple
        have hs6 := HS6.out
        have hs26 := HB6.out.size
        refine ⟨⟨i + 1, p + (chooseL k (l.drop (i + 1)) (ch ++ [u])).length, W6.heap.size :: Ds, _, _, _, _, _, _, _, _, _, _, _, _, _, _, _, _, _, _, _, _, _, _, _, _, _, by omega, rfl, ⟨⟨?_, hj, ?_, by omega, ?_, ?_⟩⟩⟩, ?_⟩
        · exact (kp_below (HI.out.kp) (HB6.out.mono HI.out.kp.size)).trans hk (fun _ h => h) (fun _ _ h => h)
        · rw [← List.drop_drop, hdr, List.drop_left]
        · refine List.nodup_cons.2 ⟨fun hin => ?_, HI.out.nodup⟩
          have := blk_lt (HI.out.marks _ hin).1
          omega
        · intro D hD
          rcases List.mem_cons.1 hD with rfl | hD
          · exact ⟨hd, by omega⟩
          · obtain ⟨e1, e2⟩ := HI.out.marks D hD
            exact ⟨hk.blk (blk_below e1 HB6.out) (fun e => by have := (HM.out _ e).1; omega), e2⟩
        · unfold chMu
          simp [intOf]
          omega
      case stop =>
        rintro c k' Wa hszW hk' ⟨rfl, hj, hk⟩ hd
        have HD := Aside0.mk (And.intro hszW (And.intro hj (And.intro hk (And.intro hd hk'))))
        clear hszW hj hk hd hk'
        refine (wpIn_wide (n := 0)).1 ?_
        gi_wp2
        obtain ⟨hszW, hj, hk, hd, hk'⟩ := HD.out
        have hdr := HI.out.drop
        rw [List.drop_eq_getElem_cons hgo, chooseL_cons, HU.out.1] at hdr
        have hlen := congrArg List.length hdr
        rw [List.length_drop, List.length_append] at hlen
        have hple := HI.out.ple
        have hs6 := HS6.out
        have hs26 := HB6.out.size
        refine leaves_marks (B := B) (W6.heap.size :: Ds) Wa ?_ ?_ (fun W' hb hck hs => ⟨_, results_none rfl _ _ _, ⟨_, rfl⟩, by omega, .inr ⟨p + k', by omega, HST.out.2 _ _ _ hj hb hck⟩⟩)
        · refine List.nodup_cons.2 ⟨fun hin => ?_, HI.out.nodup⟩
          have := blk_lt (HI.out.marks _ hin).1
          omega
        · intro D hD
          rcases List.mem_cons.1 hD with rfl | hD
          · exact ⟨hd, by omega⟩
          · obtain ⟨e1, e2⟩ := HI.out.marks D hD
            exact ⟨hk.blk (blk_below e1 HB6.out) (fun e => by omega), e2⟩
  · obtain rfl : i = l.length := by omega
    clear hile hgo hctx
    gi_wp2
    have hdr := HI.out.drop
    rw [List.drop_length, chooseL_nil] at hdr
    have hlen := congrArg List.length hdr
    rw [List.length_drop, List.length_nil] at hlen
    have hple := HI.out.ple
    have hp : p = (chooseL (k + 1) l ch).length := by omega
    have hs := HI.out.kp.size
    refine leaves_marks (B := B) Ds W2 HI.out.nodup HI.out.marks (fun W' hb hck hs' => ⟨_, results_none rfl _ _ _, ⟨_, rfl⟩, by omega, .inl (by rw [← hp]; exact HST.out.1 _ _ _ HI.out.j hb)⟩)
/-- choose's closure is an iterator. -/
theorem choose1_iter : ∀ (k kb cb lb : Nat) (l ch : List Int) (A1 A2 : Option Addr) (c1 c2 : Nat) (W0 : World), ChCtx W0 kb cb lb k l ch A1 c1 A2 c2 →
    IterOk 129 #[.pointer (some ⟨kb, 0, none⟩), .pointer (some ⟨cb, 0, none⟩), .pointer (some ⟨lb, 0, none⟩)] (chooseL k l ch) (ChRd kb cb lb A1 A2) W0 := by
  intro k
  induction k with
  | zero => exact fun kb cb lb l ch A1 A2 c1 c2 W0 h => choose1_zero kb cb lb l ch A1 A2 c1 c2 W0 h
  | succ k ih => exact fun kb cb lb l ch A1 A2 c1 c2 W0 h => choose1_succ k ih kb cb lb l ch A1 A2 c1 c2 W0 h
end Go.Proofs.Ytgmglpnoppcnkaa
