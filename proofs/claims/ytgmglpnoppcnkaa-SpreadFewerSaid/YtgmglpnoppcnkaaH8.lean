/- cared: a network whose units have states. -/
import Derived.Test.YtgmglpnoppcnkaaH7
namespace Go.Proofs.Ytgmglpnoppcnkaa
open Go.RowKit Go.Proofs.YtgmglpnoppcnkaaW.PrintWords Go.Proofs.YtgmglpnoppcnkaaW.PrintLast Go.Proofs.YtgmglpnoppcnkaaW.PrintMore
set_option linter.unusedVariables false
set_option linter.unusedSimpArgs false
set_option maxRecDepth 100000

/-- The numbers from i on of the states that are s. -/
def withFrom (s : Int) : Nat → List Int → List Int
  | _, [] => []
  | i, x :: r => if x = s then (i : Int) :: withFrom s (i + 1) r else withFrom s (i + 1) r
def fineL (st : List Int) : List Int := withFrom 1 0 st
def goneB (st : List Int) : List Bool := (List.range 20).map (fun u => decide (st[u]? = some 3))
def looseB (st : List Int) : List Bool := (List.range 20).map (fun u => decide (st[u]? = some 2) || decide (st[u]? = some 3))
theorem withFrom_snoc (s : Int) (l : List Int) : ∀ (i : Nat) (x : Int), withFrom s i (l ++ [x]) = if x = s then withFrom s i l ++ [((i + l.length : Nat) : Int)] else withFrom s i l := by
  induction l with
  | nil => intro i x; simp [withFrom]
  | cons y r ih =>
    intro i x
    simp only [List.cons_append, withFrom, ih, List.length_cons]
    rw [show i + 1 + r.length = i + (r.length + 1) by omega]
    by_cases h : x = s <;> by_cases h2 : y = s <;> simp [h, h2]
theorem fineL_snoc (l : List Int) (x : Int) : fineL (l ++ [x]) = if x = 1 then fineL l ++ [(l.length : Int)] else fineL l := by
  unfold fineL
  rw [withFrom_snoc, Nat.zero_add]
theorem goneB_len (st : List Int) : (goneB st).length = 20 := by simp [goneB]
theorem looseB_len (st : List Int) : (looseB st).length = 20 := by simp [looseB]
theorem snoc_get (l : List Int) (x : Int) (u : Nat) : (l ++ [x])[u]? = if u = l.length then some x else l[u]? := by
  rw [List.getElem?_append]
  split
  · rename_i h; rw [if_neg (by omega)]
  · rename_i h
    split
    · rename_i h2; subst h2; simp
    · rw [List.getElem?_eq_none (by simp; omega), List.getElem?_eq_none (by omega)]
theorem goneB_get (st : List Int) (u : Nat) : (goneB st)[u]? = if u < 20 then some (decide (st[u]? = some 3)) else none := by
  unfold goneB
  rw [List.getElem?_map]
  by_cases h : u < 20
  · rw [if_pos h, List.getElem?_range h]; rfl
  · rw [if_neg h, List.getElem?_eq_none (by simp; omega)]; rfl
theorem looseB_get (st : List Int) (u : Nat) : (looseB st)[u]? = if u < 20 then some (decide (st[u]? = some 2) || decide (st[u]? = some 3)) else none := by
  unfold looseB
  rw [List.getElem?_map]
  by_cases h : u < 20
  · rw [if_pos h, List.getElem?_range h]; rfl
  · rw [if_neg h, List.getElem?_eq_none (by simp; omega)]; rfl
theorem goneB_snoc (l : List Int) (x : Int) (hl : l.length < 20) : goneB (l ++ [x]) = if x = 3 then (goneB l).set l.length true else goneB l := by
  apply List.ext_getElem?
  intro u
  rw [goneB_get, snoc_get]
  have hn : l[l.length]? = none := by simp
  by_cases h : x = 3
  · rw [if_pos h, List.getElem?_set, goneB_len, goneB_get]
    by_cases hu : u = l.length
    · subst hu; simp [hl, h]
    · rw [if_neg hu, if_neg (Ne.symm hu)]
  · rw [if_neg h, goneB_get]
    by_cases hu : u = l.length
    · subst hu; simp [h]
    · rw [if_neg hu]
theorem looseB_snoc (l : List Int) (x : Int) (hl : l.length < 20) : looseB (l ++ [x]) = if x = 2 ∨ x = 3 then (looseB l).set l.length true else looseB l := by
  apply List.ext_getElem?
  intro u
  rw [looseB_get, snoc_get]
  by_cases h : x = 2 ∨ x = 3
  · rw [if_pos h, List.getElem?_set, looseB_len, looseB_get]
    by_cases hu : u = l.length
    · subst hu
      rcases h with h | h <;> simp [hl, h]
    · rw [if_neg hu, if_neg (Ne.symm hu)]
  · rw [if_neg h, looseB_get]
    have h2 : x ≠ 2 := fun e => h (.inl e)
    have h3 : x ≠ 3 := fun e => h (.inr e)
    by_cases hu : u = l.length
    · subst hu; simp [h2, h3]
    · rw [if_neg hu]
theorem weave_ok (nn uu : Int) (A : Option Addr) (c : Nat) (ls : List Lk) (sn lo hi : Int) (w : World) (hr : Kd.C PB.k88 w A ls.length ls) (hc : ls.length ≤ c) (h : startE nn uu ls sn lo hi = 0) :
    Calls Try.prog 68 #[.agg #[.int .i64 nn, .int .i64 uu, .slice A ls.length c], .agg #[.int .i64 sn, .int .i64 lo, .int .i64 hi]] w fun e w' => ∃ wp, e = .returned (.tuple #[.pointer (some ⟨wp, 0, none⟩), .int .i64 0]) ∧ Below w.heap.size w w' ∧ WebAt w' w.heap.size wp nn uu (.slice A ls.length c) sn lo hi ls :=
  (weave_calls nn uu A c ls sn lo hi w hr hc).mono fun e w' ⟨hb, hx⟩ => by
    rcases hx with ⟨hne, _⟩ | ⟨_, wp, he, hw⟩
    · exact absurd h hne
    · exact ⟨wp, he, hb, hw⟩
theorem weave_err (nn uu : Int) (A : Option Addr) (c : Nat) (ls : List Lk) (sn lo hi : Int) (w : World) (hr : Kd.C PB.k88 w A ls.length ls) (hc : ls.length ≤ c) (h : startE nn uu ls sn lo hi ≠ 0) :
    Calls Try.prog 68 #[.agg #[.int .i64 nn, .int .i64 uu, .slice A ls.length c], .agg #[.int .i64 sn, .int .i64 lo, .int .i64 hi]] w fun e w' => e = .returned (.tuple #[.pointer none, .int .i64 (startE nn uu ls sn lo hi)]) ∧ Below w.heap.size w w' :=
  (weave_calls nn uu A c ls sn lo hi w hr hc).mono fun e w' ⟨hb, hx⟩ => by
    rcases hx with ⟨_, he⟩ | ⟨hne, _⟩
    · exact ⟨he, hb⟩
    · exact absurd hne h
/-- The cells of a network with states. -/
def careCs (wp : Nat) (fv : Value) (gone loose : List Bool) : List Value := .pointer (some ⟨wp, 0, none⟩) :: fv :: (setCs gone ++ setCs loose)
theorem careCs_gone (wp : Nat) (fv : Value) (gone loose : List Bool) (j : Nat) (hj : j < gone.length) : (careCs wp fv gone loose)[2 + j]? = some (.bool gone[j]) := by
  rw [careCs, show 2 + j = j + 1 + 1 by omega, List.getElem?_cons_succ, List.getElem?_cons_succ, List.getElem?_append_left (by rw [setCs_length]; exact hj)]
  simp [setCs, hj]
theorem careCs_loose (wp : Nat) (fv : Value) (gone loose : List Bool) (hg : gone.length = 20) (j : Nat) (hj : j < loose.length) : (careCs wp fv gone loose)[22 + j]? = some (.bool loose[j]) := by
  rw [careCs, show 22 + j = (20 + j) + 1 + 1 by omega, List.getElem?_cons_succ, List.getElem?_cons_succ, List.getElem?_append_right (by rw [setCs_length]; omega), setCs_length, hg]
  simp [setCs, hj]
theorem careCs_setGone (wp : Nat) (fv : Value) (gone loose : List Bool) (j : Nat) (hj : j < gone.length) (b : Bool) : (careCs wp fv gone loose).set (2 + j) (.bool b) = careCs wp fv (gone.set j b) loose := by
  rw [careCs, show 2 + j = j + 1 + 1 by omega, List.set_cons_succ, List.set_cons_succ, List.set_append_left _ _ (by rw [setCs_length]; exact hj)]
  simp [setCs, careCs, List.map_set]
theorem careCs_setLoose (wp : Nat) (fv : Value) (gone loose : List Bool) (hg : gone.length = 20) (j : Nat) (b : Bool) : (careCs wp fv gone loose).set (22 + j) (.bool b) = careCs wp fv gone (loose.set j b) := by
  rw [careCs, show 22 + j = (20 + j) + 1 + 1 by omega, List.set_cons_succ, List.set_cons_succ, List.set_append_right _ _ (by rw [setCs_length]; omega), setCs_length, hg]
  simp [setCs, careCs, List.map_set]
theorem careCs_setFine (wp : Nat) (fv fv' : Value) (gone loose : List Bool) : (careCs wp fv gone loose).set 1 fv' = careCs wp fv' gone loose := rfl
def ints (l : List Int) : List Value := l.map (Value.int .i64)
/-- A network with a start and states lies at cb. -/
def CareAt (w : World) (B cb : Nat) (nn uu : Int) (sv : Value) (sn lo hi : Int) (ls : List Lk) (st : List Int) : Prop :=
  ∃ wp fv, B ≤ cb ∧ w.heap[cb]? = some (.cells (careCs wp fv (goneB st) (looseB st)).toArray 146 (0, 0)) ∧ w.ownsRow B 3 1 fv (fineL st).length (ints (fineL st)) ∧ WebAt w B wp nn uu sv sn lo hi ls
theorem int_get {w : World} {A : Option Addr} {st : List Int} (h : Kd.C (Kd.int .i64) w A st.length st) (i : Nat) (hi : i < st.length) : ∃ ad, A = some ad ∧ w.cell? (ad.add i) = some (.int .i64 st[i]) := by
  obtain ⟨ad, c, e, hl, hk, hc⟩ := Kd.C_get h 0 (i : Int) (by omega) (by omega)
  refine ⟨ad, e, ?_⟩
  have hk' : c = [.int .i64 (st.getD (i : Int).toNat 0)] := hk
  have := hc 0 (.int .i64 st[i]) (by rw [hk']; simp [List.getD_eq_getElem?_getD, List.getElem?_eq_getElem hi])
  have e2 : (Kd.int .i64).sz = 1 := rfl
  rw [e2, Int.toNat_natCast, Nat.mul_one, Nat.add_zero] at this
  exact this
/-- At the head of cared's loop. -/
structure CInv (w3 : World) (wp cb : Nat) (st : List Int) (i : Nat) (fv : Value) (wr : World) : Prop where
  kp : Below w3.heap.size w3 wr
  blk : wr.heap[cb]? = some (.cells (careCs wp fv (goneB (st.take i)) (looseB (st.take i))).toArray 146 (0, 0))
  own : wr.ownsRow w3.heap.size 3 1 fv (fineL (st.take i)).length (ints (fineL (st.take i)))
  cge : w3.heap.size ≤ cb
section
variable {w3 wr W : World} {wp cb i : Nat} {st : List Int} {fv : Value}
theorem CInv.keep (h : CInv w3 wp cb st i fv wr) (hb : Below wr.heap.size wr W) : CInv w3 wp cb st i fv W :=
  ⟨below_step h.kp hb, blk_below h.blk hb, own_move h.own (fun k hk => hb.block k (own_lt h.own k hk)), h.cge⟩
theorem st_take (hi : i < st.length) : st.take (i + 1) = st.take i ++ [st[i]] := by
  rw [List.take_add_one, List.getElem?_eq_getElem hi]; rfl
theorem CInv.fvne (h : CInv w3 wp cb st i fv wr) : fv.ownBlock ≠ some cb := own_ne h.blk h.own (by decide)
theorem CInv.loose (h : CInv w3 wp cb st i fv wr) (hi : i < st.length) (h20 : st.length ≤ 20) (hx : st[i] = 2) : CInv w3 wp cb st (i + 1) fv (wr.setCell ⟨cb, 22 + i, none⟩ (.bool true)) := by
  have hl : (st.take i).length = i := by rw [List.length_take]; omega
  refine ⟨h.kp.trans ((Kp.setCell wr cb (22 + i) (.bool true)).below h.kp.size (fun j e => by rw [e]; exact h.cge)), ?_, ?_, h.cge⟩
  · have := blk_set h.blk (22 + i) (.bool true)
    rw [this, List.setIfInBounds_toArray, careCs_setLoose _ _ _ _ (goneB_len _), st_take hi, hx, goneB_snoc _ _ (by omega), looseB_snoc _ _ (by omega), hl]
    simp
  · rw [st_take hi, hx, fineL_snoc, if_neg (by decide)]
    exact own_move h.own (fun k hk => Below.heap_setCell _ _ _ _ (fun e => h.fvne (by rw [hk, e])))
theorem CInv.gone (h : CInv w3 wp cb st i fv wr) (hi : i < st.length) (h20 : st.length ≤ 20) (hx : st[i] = 3) : CInv w3 wp cb st (i + 1) fv ((wr.setCell ⟨cb, 2 + i, none⟩ (.bool true)).setCell ⟨cb, 22 + i, none⟩ (.bool true)) := by
  have hl : (st.take i).length = i := by rw [List.length_take]; omega
  have k1 := (Kp.setCell wr cb (2 + i) (.bool true)).below h.kp.size (fun j e => by rw [e]; exact h.cge)
  have k2 := (Kp.setCell (wr.setCell ⟨cb, 2 + i, none⟩ (.bool true)) cb (22 + i) (.bool true)).below (h.kp.trans k1).size (fun j e => by rw [e]; exact h.cge)
  refine ⟨(h.kp.trans k1).trans k2, ?_, ?_, h.cge⟩
  · have b1 := blk_set h.blk (2 + i) (.bool true)
    have b2 := blk_set b1 (22 + i) (.bool true)
    rw [b2, List.setIfInBounds_toArray, List.setIfInBounds_toArray, careCs_setGone _ _ _ _ _ (by rw [goneB_len]; omega), careCs_setLoose _ _ _ _ (by rw [List.length_set, goneB_len]), st_take hi, hx, goneB_snoc _ _ (by omega), looseB_snoc _ _ (by omega), hl]
    simp
  · rw [st_take hi, hx, fineL_snoc, if_neg (by decide)]
    refine own_move h.own (fun k hk => ?_)
    have hn : k ≠ cb := fun e => h.fvne (by rw [hk, e])
    rw [Below.heap_setCell _ _ _ _ hn, Below.heap_setCell _ _ _ _ hn]
/-- Behind the append. -/
theorem CInv.app {w5 : World} {g cap : Nat} (h : CInv w3 wp cb st i fv W) (ho : w5.ownsRow w3.heap.size 3 1 (.slice (some ⟨g, 0, none⟩) ((fineL (st.take i)).length + 1) cap) ((fineL (st.take i)).length + 1) (ints (fineL (st.take i)) ++ [.int .i64 i])) (hg : W.grownBy w5 fv.ownBlock) (hi : i < st.length) (hx : st[i] = 1) (h20 : st.length ≤ 20) :
    w5.cell? ⟨cb, 1, none⟩ = some fv ∧ w5.frozen? ⟨cb, 1, none⟩ = false ∧ CInv w3 wp cb st (i + 1) (.slice (some ⟨g, 0, none⟩) ((fineL (st.take i)).length + 1) cap) (w5.setCell ⟨cb, 1, none⟩ (.slice (some ⟨g, 0, none⟩) ((fineL (st.take i)).length + 1) cap)) := by
  have hl : (st.take i).length = i := by rw [List.length_take]; omega
  have hb5 := blk_grown h.blk hg (fun e => h.fvne e.symm)
  have hne : g ≠ cb := fun e => own_ne hb5 ho (by decide) (by simp [Value.ownBlock, e])
  have hk5 : Below w3.heap.size w3 w5 := h.kp.trans ((Kp.grown hg).below h.kp.size (fun k hk => own_base h.own k hk.symm))
  refine ⟨blk_cell hb5 1, blk_frozen hb5 1, hk5.trans ((Kp.setCell w5 cb 1 _).below hk5.size (fun j e => by rw [e]; exact h.cge)), ?_, ?_, h.cge⟩
  · have := blk_set hb5 1 (.slice (some ⟨g, 0, none⟩) ((fineL (st.take i)).length + 1) cap)
    rw [this, List.setIfInBounds_toArray, careCs_setFine, st_take hi, hx, goneB_snoc _ _ (by omega), looseB_snoc _ _ (by omega)]
    simp
  · rw [st_take hi, hx, fineL_snoc, if_pos rfl, hl]
    refine own_move (w := w5) ?_ (fun k hk => ?_)
    · simpa [ints] using ho
    · have : g = k := by simpa [Value.ownBlock] using hk
      subst this
      exact Below.heap_setCell _ _ _ _ hne
end
theorem info3 : (Try.prog.info? 3).map (fun i => (i.zero, i.size, i.bytes)) = some (some (.int .i64 0), 1, 8) := by kernel_rfl
theorem withFrom_len (s : Int) (l : List Int) : ∀ i, (withFrom s i l).length ≤ l.length := by
  induction l with
  | nil => intro i; exact Nat.le_refl _
  | cons x r ih =>
    intro i
    simp only [withFrom, List.length_cons]
    have := ih (i + 1)
    split
    · simp only [List.length_cons]; omega
    · omega
/-- A state is one of the three. -/
def stGood (x : Int) : Prop := x = 1 ∨ x = 2 ∨ x = 3
instance (x : Int) : Decidable (stGood x) := by unfold stGood; infer_instance
/-- The error of a network, a start, states and f. -/
def validE (nn uu : Int) (ls : List Lk) (sn lo hi : Int) (st : List Int) (f : Int) : Int :=
  if startE nn uu ls sn lo hi = 0 then (if (st.length : Int) = uu then (if ∀ x ∈ st, stGood x then (if 0 ≤ f ∧ f ≤ 3 then 0 else 3) else 2) else 11) else startE nn uu ls sn lo hi
def CaredPost (w : World) (nn uu : Int) (sv : Value) (ls : List Lk) (sn lo hi : Int) (st : List Int) (f : Int) (e : Ending) (w' : World) : Prop :=
  Below w.heap.size w w' ∧
  ((validE nn uu ls sn lo hi st f ≠ 0 ∧ e = .returned (.tuple #[.pointer none, .int .i64 (validE nn uu ls sn lo hi st f)])) ∨
   (validE nn uu ls sn lo hi st f = 0 ∧ ∃ cb, e = .returned (.tuple #[.pointer (some ⟨cb, 0, none⟩), .int .i64 0]) ∧ CareAt w' w.heap.size cb nn uu sv sn lo hi ls st))

set_option maxHeartbeats 4000000 in
theorem cared_calls (nn uu : Int) (A : Option Addr) (c : Nat) (ls : List Lk) (sn lo hi : Int) (A2 : Option Addr) (c2 : Nat) (st : List Int) (f : Int) (w : World)
    (hr : Kd.C PB.k88 w A ls.length ls) (hc : ls.length ≤ c) (hr2 : Kd.C (Kd.int .i64) w A2 st.length st) (hc2 : st.length ≤ c2) :
    Calls Try.prog 54 #[.agg #[.int .i64 nn, .int .i64 uu, .slice A ls.length c], .agg #[.int .i64 sn, .int .i64 lo, .int .i64 hi], .slice A2 st.length c2, .int .i64 f] w (CaredPost w nn uu (.slice A ls.length c) ls sn lo hi st f) := by
  obtain ⟨i3, hi3, hy0, hy1, hy2⟩ := info_parts info3
  have HR := Aside0.mk hr
  have HC := Aside0.mk hc
  have HR2 := Aside0.mk hr2
  have HC2 := Aside0.mk hc2
  clear hr hc hr2 hc2
  go_enter Try.func54, Try.ntmps54
  go_wp2_with ((with_reducible refine gate_dst (N := 4) rfl ?_); refine hold ?_)
  refine box_event rfl (N := 4) rfl (cs := #[.int .i64 nn, .int .i64 uu, .slice A ls.length c]) (t := 32) (by go_simp) ?_
  intro bn hbn w1 hb1 hB1
  have HB1 := Aside0.mk hB1
  have Hb1 := Aside0.mk hb1
  clear hbn hB1 hb1
  go_wp2_with ((with_reducible refine gate_dst (N := 5) rfl ?_); refine hold ?_)
  refine box_event rfl (N := 5) rfl (cs := #[.int .i64 sn, .int .i64 lo, .int .i64 hi]) (t := 43) (by go_simp) ?_
  intro bs hbs w2 hb2 hB2
  have HB2 := Aside0.mk (below_step HB1.out hB2)
  have hb1' := blk_below Hb1.out hB2
  have HCC : Aside0 (∀ W, Below w2.heap.size w2 W → W.heap[bn]? = some (.cells #[.int .i64 nn, .int .i64 uu, .slice A ls.length c] 32 (0, 0))) := ⟨fun W h => blk_below hb1' h⟩
  have C0 : w2.cell? ⟨bn, 0, none⟩ = some (.int .i64 nn) := blk_cell hb1' 0
  have C1 : w2.cell? ⟨bn, 1, none⟩ = some (.int .i64 uu) := blk_cell hb1' 1
  have C2 : w2.cell? ⟨bn, 2, none⟩ = some (.slice A ls.length c) := blk_cell hb1' 2
  have C3 : w2.cell? ⟨bs, 0, none⟩ = some (.int .i64 sn) := blk_cell hb2 0
  have C4 : w2.cell? ⟨bs, 1, none⟩ = some (.int .i64 lo) := blk_cell hb2 1
  have C5 : w2.cell? ⟨bs, 2, none⟩ = some (.int .i64 hi) := blk_cell hb2 2
  clear hb1' hb2 hB2 Hb1 HB1 hbs
  by_cases h0 : startE nn uu ls sn lo hi = 0
  · have HS := Aside0.mk h0
    clear h0
    by_cases h1 : (st.length : Int) = uu
    · have hu : (((st.length : Int)) != uu) = false := by simpa using h1
      have hz0 : goneB [] = List.replicate 20 false := by decide
      have hz1 : looseB [] = List.replicate 20 false := by decide
      have HV := Aside0.mk (And.intro h1 (And.intro hz0 hz1))
      clear h1 hz0 hz1
      go_wp2_with (first | (go_at_call 68; refine ((weave_ok nn uu A c ls sn lo hi _ (Kd.C_below HR.out HB2.out) HC.out HS.out).mono ?_); rintro e w3 ⟨wp, rfl, hb, hwp⟩; have HB3 := Aside0.mk (below_step HB2.out hb); have HWP := Aside0.mk hwp; have D1 : w3.cell? ⟨bn, 1, none⟩ = some (.int .i64 uu) := blk_cell (HCC.out _ hb) 1; clear hb hwp C0 C1 C2 C3 C4 C5) | ((with_reducible refine gate_dst (N := 33) rfl ?_); refine hold ?_))
      refine box_event rfl (N := 33) rfl (cs := (careCs wp (.slice none 0 0) (List.replicate 20 false) (List.replicate 20 false)).toArray) (t := 146) (by go_simp; rfl) ?_
      intro cb hcb w4 hb4 hB4
      have HI0 : Aside0 (CInv w3 wp cb st 0 (.slice none 0 0) w4) := by
        refine ⟨⟨hB4, ?_, ?_, by omega⟩⟩
        · rw [List.take_zero, HV.out.2.1, HV.out.2.2]; exact hb4
        · rw [List.take_zero]; exact ⟨rfl, .inl ⟨rfl, rfl⟩⟩
      have h20 : st.length ≤ 20 := by
        have h1 := HV.out.1
        obtain ⟨n, e, hO⟩ := startE_ok HS.out
        have := hO.net.u2
        omega
      clear hcb hb4 hB4 D1 HCC hu
      go_wp2
      go_loopw [36] (fun v wr => ∃ (i : Nat) (fv : Value), v = .int .i64 i ∧ i ≤ st.length ∧ Aside0 (CInv w3 wp cb st i fv wr) ∧ Aside0 (∀ x ∈ st.take i, stGood x)) (fun v _ => st.length - (intOf v).toNat)
      case atStart => exact ⟨0, _, rfl, Nat.zero_le _, HI0, ⟨by simp⟩⟩
      case round =>
        obtain ⟨i, fv, rfl, hile, HI, HG⟩ := hrel
        clear HI0
        obtain ⟨wo, rfl⟩ : ∃ wo, wo = wr := ⟨_, rfl⟩
        by_cases hgo : i < st.length
        · have hwi : IntKind.i64.wrap ((i : Int) + 1) = (i : Int) + 1 := by rw [i64_w]; unfold wrap64; omega
          obtain ⟨x, hx⟩ : ∃ x, st[i] = x := ⟨_, rfl⟩
          obtain ⟨ad, rfl, e0⟩ := int_get (Kd.C_below HR2.out (below_step HB3.out HI.out.kp)) i hgo
          rw [hx] at e0
          have HX := Aside0.mk hx
          clear hx
          have HNX : stGood x → Aside0 (∀ y ∈ st.take (i + 1), stGood y) := fun hg => ⟨by
            rw [st_take hgo, HX.out]
            intro y hy
            rcases List.mem_append.1 hy with hy | hy
            · exact HG.out y hy
            · rw [List.mem_singleton.1 hy]; exact hg⟩
          by_cases h1 : x = 1
          · subst h1
            have HNG := HNX (.inl rfl)
            clear HNX
            have c0 : wo.cell? ⟨cb, 1, none⟩ = some fv := blk_cell HI.out.blk 1
            have hA : Below wo.heap.size wo (wo.alloc (.cells #[.int .i64 (i : Int)] 3)) := below_alloc (Below.refl _ _) _
            have HIA := Aside0.mk (HI.out.keep hA)
            have hnews : ∀ j u, [Value.int .i64 (i : Int)][j]? = some u → (wo.alloc (.cells #[.int .i64 (i : Int)] 3)).cell? ((⟨wo.heap.size, 0, none⟩ : Addr).add j) = some u := World.news_of_block (w := wo.alloc (.cells #[.int .i64 (i : Int)] 3)) (cs := #[.int .i64 (i : Int)]) (blk_new wo _)
            have HNW := Aside0.mk hnews
            have hfl : (fineL (st.take i)).length ≤ 20 := by
              have a := withFrom_len 1 (st.take i) 0
              rw [List.length_take] at a
              unfold fineL
              omega
            clear hA hnews
            go_wp2_with ((with_reducible refine gate_dst (N := 51) rfl ?_); refine hold ?_)
            refine wpList_append_lies _ rfl (.tmp 48) (.tmp 50) 33 rfl w3.heap.size 3 i3 _ 1 8 Try.underlying33 hi3 hy0 hy1 hy2 rfl (by decide) fv (fineL (st.take i)).length (ints (fineL (st.take i))) (by go_simp) HIA.out.own ⟨wo.heap.size, 0, none⟩ 1 1 [.int .i64 (i : Int)] (by go_simp) rfl HNW.out (by simp [Value.oneCell']) (by decide) (by unfold maxLen; omega) (by omega) HIA.out.kp.size _ rfl ?_
            intro g cap w5 hown5 hg5 hor hlt5
            obtain ⟨d0, d1, hI5⟩ := HIA.out.app hown5 hg5 hgo HX.out h20
            have HI5 := Aside0.mk hI5
            clear hown5 hg5 hor hlt5 hI5 e0 c0
            obtain ⟨N, hN⟩ : ∃ N, N = (fineL (st.take i)).length + 1 := ⟨_, rfl⟩
            rw [← hN] at HI5 ⊢
            clear hN hfl
            go_wp2
            clear d0 d1
            go_roundw
            case rel => exact ⟨i + 1, _, by go_num, by omega, HI5, HNG⟩
            case measure => simp [intOf]; omega
          · by_cases h2 : x = 2
            · subst h2
              have HNG := HNX (.inr (.inl rfl))
              have hc : (careCs wp fv (goneB (st.take i)) (looseB (st.take i)))[22 + i]? = some (.bool ((looseB (st.take i))[i]'(by rw [looseB_len]; omega))) := careCs_loose _ _ _ _ (goneB_len _) _ _
              have c0 : ∃ b, wo.cell? ⟨cb, 22 + i, none⟩ = some (.bool b) := ⟨_, by rw [blk_cell HI.out.blk (22 + i)]; simpa using hc⟩
              obtain ⟨b0, c0⟩ := c0
              have f0 : wo.frozen? ⟨cb, 22 + i, none⟩ = false := blk_frozen HI.out.blk (22 + i)
              have HI5 := Aside0.mk (HI.out.loose hgo h20 HX.out)
              have hi20 : i < 20 := by omega
              clear HNX hc
              go_wp2
              go_roundw
              case rel => exact ⟨i + 1, _, by go_num, by omega, HI5, HNG⟩
              case measure => simp [intOf]; omega
            · by_cases h3 : x = 3
              · subst h3
                have HNG := HNX (.inr (.inr rfl))
                have hc : (careCs wp fv (goneB (st.take i)) (looseB (st.take i)))[22 + i]? = some (.bool ((looseB (st.take i))[i]'(by rw [looseB_len]; omega))) := careCs_loose _ _ _ _ (goneB_len _) _ _
                have hc2 : (careCs wp fv (goneB (st.take i)) (looseB (st.take i)))[2 + i]? = some (.bool ((goneB (st.take i))[i]'(by rw [goneB_len]; omega))) := careCs_gone _ _ _ _ _ _
                have c0 : ∃ b, wo.cell? ⟨cb, 22 + i, none⟩ = some (.bool b) := ⟨_, by rw [blk_cell HI.out.blk (22 + i)]; simpa using hc⟩
                obtain ⟨b0, c0⟩ := c0
                have c1 : ∃ b, wo.cell? ⟨cb, 2 + i, none⟩ = some (.bool b) := ⟨_, by rw [blk_cell HI.out.blk (2 + i)]; simpa using hc2⟩
                obtain ⟨b1, c1⟩ := c1
                have f0 : wo.frozen? ⟨cb, 22 + i, none⟩ = false := blk_frozen HI.out.blk (22 + i)
                have f1 : wo.frozen? ⟨cb, 2 + i, none⟩ = false := blk_frozen HI.out.blk (2 + i)
                have HI5 := Aside0.mk (HI.out.gone hgo h20 HX.out)
                have hi20 : i < 20 := by omega
                clear HNX hc hc2
                go_wp2
                go_region
                have HI6 := Aside0.mk (HI5.out.keep (below_drew1 (Below.refl _ _)))
                clear HI5 c0 c1 f0 f1
                go_wp2
                go_roundw
                case rel => exact ⟨i + 1, _, by go_num, by omega, HI6, HNG⟩
                case measure => simp [intOf]; omega
              · have e1 : (x == 1) = false := by simpa using h1
                have e2 : (x == 2) = false := by simpa using h2
                have e3 : (x == 3) = false := by simpa using h3
                have HE : Aside0 (validE nn uu ls sn lo hi st f = 2) := ⟨by
                  unfold validE
                  rw [if_pos HS.out, if_pos HV.out.1, if_neg]
                  intro hall
                  have := hall x (by rw [← HX.out]; exact List.getElem_mem hgo)
                  unfold stGood at this
                  omega⟩
                clear h1 h2 h3 HNX
                go_wp2
                go_ret2
                exact ⟨below_step HB3.out HI.out.kp, .inl ⟨by rw [HE.out]; decide, by rw [HE.out]; rfl⟩⟩
        · obtain rfl : i = st.length := by omega
          clear hile hgo
          have hall : ∀ x ∈ st, stGood x := by
            have := HG.out
            rw [List.take_length] at this
            exact this
          by_cases hf : 0 ≤ f ∧ f ≤ 3
          · have hF : PB.spread_within.f f 0 3 = some true := by rw [within_eq, decide_eq_true hf]
            have HF := Aside0.mk hF
            have HE : Aside0 (validE nn uu ls sn lo hi st f = 0) := ⟨by unfold validE; rw [if_pos HS.out, if_pos HV.out.1, if_pos hall, if_pos hf]⟩
            clear hF hf hall
            go_wp2_with (first | (go_at_call 72; refine ((PB.spread_within.calls _ _ _ _ _ HF.out).mono ?_); rintro e w4 ⟨rfl, hb⟩; have HB4 := Aside0.mk hb.below; clear hb))
            go_ret2
            have hI := HI.out.keep HB4.out
            refine ⟨below_step HB3.out hI.kp, .inr ⟨HE.out, cb, rfl, wp, fv, Nat.le_trans HB3.out.size hI.cge, ?_, ?_, ?_⟩⟩
            · have := hI.blk; rw [List.take_length] at this; exact this
            · have := hI.own; rw [List.take_length] at this; exact own_less this HB3.out.size
            · have hw := HWP.out.below hI.kp
              obtain ⟨h0, m, L, cl, h1, h2, h3⟩ := hw
              have hs := HB2.out.size
              exact ⟨by omega, m, L, cl, h1, by omega, ⟨h3.map, fun k => own_less (h3.own k) hs, h3.ne⟩⟩
          · have hF : PB.spread_within.f f 0 3 = some false := by rw [within_eq, decide_eq_false hf]
            have HF := Aside0.mk hF
            have HE : Aside0 (validE nn uu ls sn lo hi st f = 3) := ⟨by unfold validE; rw [if_pos HS.out, if_pos HV.out.1, if_pos hall, if_neg hf]⟩
            clear hF hf hall
            go_wp2_with (first | (go_at_call 72; refine ((PB.spread_within.calls _ _ _ _ _ HF.out).mono ?_); rintro e w4 ⟨rfl, hb⟩; have HB4 := Aside0.mk hb.below; clear hb))
            go_ret2
            exact ⟨below_step HB3.out (below_step HI.out.kp HB4.out), .inl ⟨by rw [HE.out]; decide, by rw [HE.out]; rfl⟩⟩
    · have hu : (((st.length : Int)) != uu) = true := by simpa using h1
      have HV : Aside0 (validE nn uu ls sn lo hi st f = 11) := ⟨by unfold validE; rw [if_pos HS.out, if_neg h1]⟩
      clear h1
      go_wp2_with (first | (go_at_call 68; refine ((weave_ok nn uu A c ls sn lo hi _ (Kd.C_below HR.out HB2.out) HC.out HS.out).mono ?_); rintro e w3 ⟨wp, rfl, hb, hwp⟩; have HB3 := Aside0.mk (below_step HB2.out hb); have D1 : w3.cell? ⟨bn, 1, none⟩ = some (.int .i64 uu) := blk_cell (HCC.out _ hb) 1; clear hb hwp C0 C1 C2 C3 C4 C5))
      go_ret2
      exact ⟨HB3.out, .inl ⟨by rw [HV.out]; decide, by rw [HV.out]; rfl⟩⟩
  · have HV : Aside0 (validE nn uu ls sn lo hi st f = startE nn uu ls sn lo hi ∧ startE nn uu ls sn lo hi ≠ 0) := ⟨by unfold validE; rw [if_neg h0], h0⟩
    have hd : (startE nn uu ls sn lo hi != 0) = true := by simpa using h0
    clear h0
    go_wp2_with (first | (go_at_call 68; refine ((weave_err nn uu A c ls sn lo hi _ (Kd.C_below HR.out HB2.out) HC.out HV.out.2).mono ?_); rintro e w3 ⟨rfl, hb⟩; have HB3 := Aside0.mk (below_step HB2.out hb); clear hb C0 C1 C2 C3 C4 C5))
    go_ret2
    exact ⟨HB3.out, .inl ⟨by rw [HV.out.1]; exact HV.out.2, by rw [HV.out.1]; rfl⟩⟩
end Go.Proofs.Ytgmglpnoppcnkaa
