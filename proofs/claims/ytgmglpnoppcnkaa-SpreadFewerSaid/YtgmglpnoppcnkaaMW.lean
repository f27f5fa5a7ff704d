/- works: the examples of the chapter hold. -/
import Derived.Test.YtgmglpnoppcnkaaMA
namespace Go.Proofs.Ytgmglpnoppcnkaa
open Go.RowKit Go.Proofs.YtgmglpnoppcnkaaW.PrintWords Go.Proofs.YtgmglpnoppcnkaaW.PrintLast Go.Proofs.YtgmglpnoppcnkaaW.PrintMore
set_option linter.unusedVariables false
set_option linter.unusedSimpArgs false
set_option maxRecDepth 100000

theorem ask_N (f : Int) (h0 : 0 ≤ f) (h3 : f ≤ 3) (d : Du) (hd : duesE 4 [d] = 0) : askE 4 3 NL 0 100 100 [1, 1, 1] f d = 0 := by
  unfold askE
  rw [if_pos (N_valid f h0 h3)]
  exact hd
/-- Worst, at the examples' network. -/
theorem Worst_N (f : Nat) (hf : f ≤ 3) (A : Option Addr) (c : Nat) (A2 : Option Addr) (c2 : Nat) (S : List PB.S41) (hS : worstS 4 NL 0 100 100 [1, 1, 1] f = S) (w : World) (hr : LinksAt w A NL) (hc : NL.length ≤ c) (hr2 : IntsAt w A2 [1, 1, 1]) (hc2 : [(1 : Int), 1, 1].length ≤ c2) :
    Calls Try.prog 16 #[.agg #[.int .i64 4, .int .i64 3, .slice A NL.length c], .agg #[.int .i64 0, .int .i64 100, .int .i64 100], .slice A2 [(1 : Int), 1, 1].length c2, .int .i64 f] w fun e w' => ∃ A c, e = .returned (.tuple #[.slice A S.length c, .int .i64 0]) ∧ S.length ≤ c ∧ DuesAt w' A S ∧ Below w.heap.size w w' := by
  have := Worst_any 4 3 A c NL 0 100 100 A2 c2 [1, 1, 1] f w hr hc hr2 hc2 (N_valid f (by omega) (by omega))
  rw [hS] at this
  exact this
theorem Blame_N (f : Nat) (hf : f ≤ 3) (A : Option Addr) (c : Nat) (A2 : Option Addr) (c2 : Nat) (d : Du) (x : List Int) (hd : duesE 4 [d] = 0) (hx : blameL 4 NL 0 100 [1, 1, 1] f d = some x) (w : World) (hr : LinksAt w A NL) (hc : NL.length ≤ c) (hr2 : IntsAt w A2 [1, 1, 1]) (hc2 : [(1 : Int), 1, 1].length ≤ c2) :
    Calls Try.prog 39 #[.agg #[.int .i64 4, .int .i64 3, .slice A NL.length c], .agg #[.int .i64 0, .int .i64 100, .int .i64 100], .slice A2 [(1 : Int), 1, 1].length c2, .int .i64 f, .agg #[.int .i64 d.f0, .int .i64 d.f1]] w fun e w' => ∃ A c, e = .returned (.tuple #[.slice A x.length c, .bool true, .int .i64 0]) ∧ x.length ≤ c ∧ IntsAt w' A x ∧ Below w.heap.size w w' :=
  Blame_some 4 3 A c NL 0 100 100 A2 c2 [1, 1, 1] f d x w hr hc hr2 hc2 (ask_N f (by omega) (by omega) d hd) hx
theorem Diag_N (A : Option Addr) (c : Nat) (A3 : Option Addr) (c3 : Nat) (l : List Du) (u : Int) (X Y : List Int) (hl : l.length ≤ 100000) (h : diagE 4 3 NL 0 100 100 l u = 0) (hX : listB (dWork NL 0 l u) = X) (hY : listB (dFail NL 0 l u) = Y) (w : World) (hr : LinksAt w A NL) (hc : NL.length ≤ c) (hr3 : DuesAt w A3 l) (hc3 : l.length ≤ c3) :
    Calls Try.prog 24 #[.agg #[.int .i64 4, .int .i64 3, .slice A NL.length c], .agg #[.int .i64 0, .int .i64 100, .int .i64 100], .slice A3 l.length c3, .int .i64 u] w fun e w' => ∃ A1 c1 A2 c2, e = .returned (.tuple #[.slice A1 X.length c1, .slice A2 Y.length c2, .int .i64 0]) ∧ X.length ≤ c1 ∧ IntsAt w' A1 X ∧ Y.length ≤ c2 ∧ IntsAt w' A2 Y ∧ Below w.heap.size w w' := by
  have := Diag_zero 4 3 A c NL 0 100 100 A3 c3 l u w hr hc hr3 hc3 hl h
  rw [hX, hY] at this
  exact this

/-- A row against one that is written out. -/
theorem same_lit (A : Option Addr) (c n : Nat) (l : List PB.S41) (cs : Array Value) (t : TypeId) (w : World) (hn : n = l.length) (h0 : DuesAt w A l) (k0 : l.length ≤ c) (hl : l.length ≤ 1000) (hc : ∀ (j : Nat) (p : PB.S41), l[j]? = some p → cs[j * 2]? = some (Value.int .i64 p.f0) ∧ cs[j * 2 + 1]? = some (Value.int .i64 p.f1)) :
    Calls Try.prog 34 #[.slice A n c, .slice (some ⟨w.heap.size, 0, none⟩) n n] (w.alloc (.cells cs t (0, 0))) fun e w' => e = .returned (.bool true) ∧ Below w.heap.size w w' := by
  subst hn
  have hB : Below w.heap.size w (w.alloc (.cells cs t (0, 0))) := below_alloc (Below.refl _ _) _
  exact (same_true A _ c l.length l _ (Kd.C_below h0 hB) k0 (C_pairs l (blk_new w _) hl hc) (Nat.le_refl _)).mono fun e w' ⟨he, hb⟩ => ⟨he, below_step hB hb⟩
theorem equal_lit (A : Option Addr) (c n : Nat) (l : List Int) (cs : Array Value) (t : TypeId) (w : World) (hn : n = l.length) (h0 : IntsAt w A l) (k0 : l.length ≤ c) (hl : l.length ≤ 1000) (hc : ∀ (j : Nat) (p : Int), l[j]? = some p → cs[j]? = some (Value.int .i64 p)) :
    Calls Try.prog 27 #[.slice A n c, .slice (some ⟨w.heap.size, 0, none⟩) n n] (w.alloc (.cells cs t (0, 0))) fun e w' => e = .returned (.bool true) ∧ Below w.heap.size w w' := by
  subst hn
  have hB : Below w.heap.size w (w.alloc (.cells cs t (0, 0))) := below_alloc (Below.refl _ _) _
  exact (equal_true A _ c l.length l _ (Kd.C_below h0 hB) k0 (C_ints l (blk_new w _) hl hc) (Nat.le_refl _)).mono fun e w' ⟨he, hb⟩ => ⟨he, below_step hB hb⟩
set_option maxHeartbeats 4000000 in
theorem works_calls (w : World) : Calls Try.prog 23 #[] w fun e w' => e = .returned (.bool true) ∧ Below w.heap.size w w' := by
  go_enter Try.func23, Try.ntmps23
  go_wp2_with fail
  refine (N_any _).mono ?_
  rintro e w1 ⟨A1, c1, rfl, hc1, hl1, hb1⟩
  have H1 := Aside0.mk (And.intro hc1 (And.intro hl1 hb1))
  clear hc1 hl1 hb1
  go_wp2_with fail
  refine (S_any _).mono ?_
  rintro e w2 ⟨rfl, hb2⟩
  have H2 := Aside0.mk (And.intro hb2 (below_step H1.out.2.2 hb2))
  clear hb2
  go_wp2_with fail
  refine (fine_any _).mono ?_
  rintro e w3 ⟨A3, c3, rfl, hc3, hl3, hb3⟩
  have H3 := Aside0.mk (And.intro hc3 (And.intro hl3 (And.intro (below_step H2.out.2 hb3) (below_step H2.out.1 hb3))))
  clear hc3 hl3 hb3
  go_wp2_with fail
  refine (Worst_N 1 (by omega) A1 c1 A3 c3 _ worst_N1 w3 (Kd.C_below H1.out.2.1 H3.out.2.2.2) H1.out.1 H3.out.2.1 H3.out.1).mono ?_
  rintro e w4 ⟨A4, c4, rfl, hc4, hl4, hb4⟩
  have H4 := Aside0.mk (And.intro hc4 (And.intro hl4 (below_step H3.out.2.2.1 hb4)))
  clear hc4 hl4 hb4 H1 H2 H3
  -- blame
  go_wp2_with fail
  refine (N_any _).mono ?_
  rintro e w5 ⟨A5, c5, rfl, hc5, hl5, hb5⟩
  have H5 := Aside0.mk (And.intro hc5 (And.intro hl5 hb5))
  clear hc5 hl5 hb5
  go_wp2_with fail
  refine (S_any _).mono ?_
  rintro e w6 ⟨rfl, hb6⟩
  have H6 := Aside0.mk (And.intro hb6 (below_step H5.out.2.2 hb6))
  clear hb6
  go_wp2_with fail
  refine (fine_any _).mono ?_
  rintro e w7 ⟨A7, c7, rfl, hc7, hl7, hb7⟩
  have H7 := Aside0.mk (And.intro hc7 (And.intro hl7 (And.intro (below_step H6.out.2 hb7) (below_step H6.out.1 hb7))))
  clear hc7 hl7 hb7
  go_wp2_with fail
  refine (due_any _ _).mono ?_
  rintro e w8 ⟨rfl, hb8⟩
  have H8 := Aside0.mk (And.intro hb8 (And.intro (below_step H7.out.2.2.1 hb8) (below_step H7.out.2.2.2 hb8)))
  clear hb8
  go_wp2_with fail
  refine (Blame_N 2 (by omega) A5 c5 A7 c7 ⟨3, 180⟩ [0, 1] (by decide) blame_N2 w8 (Kd.C_below H5.out.2.1 H8.out.2.2) H5.out.1 (Kd.C_below H7.out.2.1 H8.out.1) H7.out.1).mono ?_
  rintro e w9 ⟨A9, c9, rfl, hc9, hl9, hb9⟩
  have H9 := Aside0.mk (And.intro hc9 (And.intro hl9 (below_step H8.out.2.1 hb9)))
  clear hc9 hl9 hb9 H5 H6 H7 H8
  -- diagnose
  go_wp2_with fail
  refine (N_any _).mono ?_
  rintro e w10 ⟨A10, c10, rfl, hc10, hl10, hb10⟩
  have H10 := Aside0.mk (And.intro hc10 (And.intro hl10 hb10))
  clear hc10 hl10 hb10
  go_wp2_with fail
  refine (S_any _).mono ?_
  rintro e w11 ⟨rfl, hb11⟩
  have H11 := Aside0.mk (And.intro hb11 (below_step H10.out.2.2 hb11))
  clear hb11
  go_wp2_with fail
  have hx := blk_new w11 (.cells #[.int .i64 0, .int .i64 100, .int .i64 2, .int .i64 130, .int .i64 3, .int .i64 140] 71)
  have hB : Below w11.heap.size w11 (w11.alloc (.cells #[.int .i64 0, .int .i64 100, .int .i64 2, .int .i64 130, .int .i64 3, .int .i64 140] 71)) := below_alloc (Below.refl _ _) _
  have HRL : Aside0 (DuesAt (w11.alloc (.cells #[.int .i64 0, .int .i64 100, .int .i64 2, .int .i64 130, .int .i64 3, .int .i64 140] 71)) (some ⟨w11.heap.size, 0, none⟩) RL) := ⟨C_pairs RL hx (by decide) (fun j p hj => by
    rcases j with _ | _ | _ | j
    · cases hj; exact ⟨rfl, rfl⟩
    · cases hj; exact ⟨rfl, rfl⟩
    · cases hj; exact ⟨rfl, rfl⟩
    · simp [RL] at hj)⟩
  have H12 := Aside0.mk (And.intro (below_step H11.out.1 hB) (below_step H11.out.2 hB))
  clear hx hB
  refine (Diag_N A10 c10 (some ⟨w11.heap.size, 0, none⟩) 3 RL 200 [1, 2] [0] (by decide) diag_N diag_N1 diag_N2 _ (Kd.C_below H10.out.2.1 H12.out.1) H10.out.1 HRL.out (by decide)).mono ?_
  rintro e w13 ⟨Aw, cw, Af, cf, rfl, hcw, hlw, hcf, hlf, hb13⟩
  have H13 := Aside0.mk (And.intro hcw (And.intro hlw (And.intro hcf (And.intro hlf (below_step H12.out.2 hb13)))))
  clear hcw hlw hcf hlf hb13 H10 H11 H12 HRL
  go_wp2_with fail
  refine (span_any _ _ _).mono ?_
  rintro e w14 ⟨rfl, hb14⟩
  have H14 := Aside0.mk hb14
  clear hb14
  go_wp2_with fail
  refine (span_any _ _ _).mono ?_
  rintro e w15 ⟨rfl, hb15⟩
  have H15 := Aside0.mk (below_step H14.out hb15)
  clear hb15
  go_wp2_with fail
  refine (span_any _ _ _).mono ?_
  rintro e w16 ⟨rfl, hb16⟩
  have H16 := Aside0.mk (below_step H15.out hb16)
  clear hb16
  go_wp2_with fail
  refine (span_any _ _ _).mono ?_
  rintro e w17 ⟨rfl, hb17⟩
  have H17 := Aside0.mk (below_step H16.out hb17)
  clear hb17 H14 H15 H16
  go_wp2_with fail
  refine (same_lit A4 c4 4 [⟨100, 100⟩, ⟨110, NV⟩, ⟨105, NV⟩, ⟨105, 180⟩] _ _ w17 rfl (Kd.C_below H4.out.2.1 (below_step H9.out.2.2 (below_step H13.out.2.2.2.2 H17.out))) H4.out.1 (by decide) (fun j p hj => by
    rcases j with _ | _ | _ | _ | j
    · cases hj; exact ⟨rfl, rfl⟩
    · cases hj; exact ⟨rfl, rfl⟩
    · cases hj; exact ⟨rfl, rfl⟩
    · cases hj; exact ⟨rfl, rfl⟩
    · simp at hj)).mono ?_
  rintro e w18 ⟨rfl, hb18⟩
  have H18 := Aside0.mk (below_step H17.out hb18)
  clear hb18 H17
  go_wp2_with fail
  refine (equal_lit A9 c9 2 [0, 1] _ _ w18 rfl (Kd.C_below H9.out.2.1 (below_step H13.out.2.2.2.2 H18.out)) H9.out.1 (by decide) (fun j p hj => by
    rcases j with _ | _ | j
    · cases hj; rfl
    · cases hj; rfl
    · simp at hj)).mono ?_
  rintro e w19 ⟨rfl, hb19⟩
  have H19 := Aside0.mk (below_step H18.out hb19)
  clear hb19 H18
  go_wp2_with fail
  refine (equal_lit Aw cw 2 [1, 2] _ _ w19 rfl (Kd.C_below H13.out.2.1 H19.out) H13.out.1 (by decide) (fun j p hj => by
    rcases j with _ | _ | j
    · cases hj; rfl
    · cases hj; rfl
    · simp at hj)).mono ?_
  rintro e w20 ⟨rfl, hb20⟩
  have H20 := Aside0.mk (below_step H19.out hb20)
  clear hb20 H19
  go_wp2_with fail
  refine (equal_lit Af cf 1 [0] _ _ w20 rfl (Kd.C_below H13.out.2.2.2.1 H20.out) H13.out.2.2.1 (by decide) (fun j p hj => by
    rcases j with _ | j
    · cases hj; rfl
    · simp at hj)).mono ?_
  rintro e w21 ⟨rfl, hb21⟩
  have H21 := Aside0.mk (below_step H20.out hb21)
  clear hb21 H20
  go_wp2
  go_ret
  exact ⟨rfl, below_step H4.out.2.2 (below_step H9.out.2.2 (below_step H13.out.2.2.2.2 H21.out))⟩
end Go.Proofs.Ytgmglpnoppcnkaa
