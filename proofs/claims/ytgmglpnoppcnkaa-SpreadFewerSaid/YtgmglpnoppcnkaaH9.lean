/- without, check, asked. -/
import Derived.Test.YtgmglpnoppcnkaaH8
namespace Go.Proofs.Ytgmglpnoppcnkaa
open Go.RowKit Go.Proofs.YtgmglpnoppcnkaaW.PrintWords Go.Proofs.YtgmglpnoppcnkaaW.PrintLast Go.Proofs.YtgmglpnoppcnkaaW.PrintMore
set_option linter.unusedVariables false
set_option linter.unusedSimpArgs false
set_option maxRecDepth 100000

/-- A set with some units besides. -/
def setUs (s : List Bool) (us : List Int) : List Bool := us.foldl (fun s u => s.set u.toNat true) s
theorem setUs_len (us : List Int) : ∀ s, (setUs s us).length = s.length := by
  induction us with
  | nil => intro s; rfl
  | cons u r ih => intro s; rw [setUs, List.foldl_cons]; exact (ih _).trans (by simp)
theorem setUs_snoc (s : List Bool) (us : List Int) (u : Int) : setUs s (us ++ [u]) = (setUs s us).set u.toNat true := by simp [setUs]
theorem care_range {w : World} {wp cb : Nat} {fv : Value} {gone loose : List Bool} (h : w.heap[cb]? = some (.cells (careCs wp fv gone loose).toArray 146 (0, 0))) (hg : gone.length = 20) : w.rangeAt cb 22 (setCs loose) := by
  intro j v hj
  rw [blk_cell h (22 + j)]
  have hjl : j < loose.length := by
    have := (List.getElem?_eq_some_iff.1 hj).1
    rwa [setCs_length] at this
  have := careCs_loose wp fv gone loose hg j hjl
  simp only [List.getElem?_toArray]
  rw [this]
  simpa [setCs, hjl] using hj
theorem care_range2 {w : World} {wp cb : Nat} {fv : Value} {gone loose : List Bool} (h : w.heap[cb]? = some (.cells (careCs wp fv gone loose).toArray 146 (0, 0))) (hg : gone.length = 20) : w.rangeAt cb 2 (setCs gone) := by
  intro j v hj
  rw [blk_cell h (2 + j)]
  have hjl : j < gone.length := by
    have := (List.getElem?_eq_some_iff.1 hj).1
    rwa [setCs_length] at this
  have := careCs_gone wp fv gone loose j hjl
  simp only [List.getElem?_toArray]
  rw [this]
  simpa [setCs, hjl] using hj
theorem CareAt.below {w W : World} {B cb : Nat} {nn uu : Int} {sv : Value} {sn lo hi : Int} {ls : List Lk} {st : List Int} (h : CareAt w B cb nn uu sv sn lo hi ls st) (hb : Below w.heap.size w W) : CareAt W B cb nn uu sv sn lo hi ls st := by
  obtain ⟨wp, fv, h1, h2, h3, h4⟩ := h
  exact ⟨wp, fv, h1, blk_below h2 hb, own_move h3 (fun k hk => hb.block k (own_lt h3 k hk)), h4.below hb⟩

theorem setCells_blk {g t : Nat} : ∀ (vs pre mid post : List Value) (w : World), mid.length = vs.length → w.heap[g]? = some (.cells (pre ++ mid ++ post).toArray t (0, 0)) → (w.setCells g pre.length vs).heap[g]? = some (.cells (pre ++ vs ++ post).toArray t (0, 0)) := by
  intro vs
  induction vs with
  | nil =>
    intro pre mid post w hm h
    have : mid = [] := List.length_eq_zero_iff.1 hm
    subst this
    exact h
  | cons v r ih =>
    intro pre mid post w hm h
    cases mid with
    | nil => simp at hm
    | cons x m =>
      have h1 := blk_set h pre.length v
      have h2 := ih (pre ++ [v]) m post (w.setCell ⟨g, pre.length, none⟩ v) (by simpa using hm) (by
        rw [h1]
        simp [List.set_append])
      rw [List.length_append] at h2
      show ((w.setCell ⟨g, pre.length, none⟩ v).setCells g (pre.length + 1) r).heap[g]? = _
      simpa using h2
theorem setCells_all {g t : Nat} {cs : List Value} (vs : List Value) (w : World) (hl : cs.length = vs.length) (h : w.heap[g]? = some (.cells cs.toArray t (0, 0))) : (w.setCells g 0 vs).heap[g]? = some (.cells vs.toArray t (0, 0)) := by
  have := setCells_blk (g := g) (t := t) vs [] cs [] w hl (by simpa using h)
  simpa using this
theorem there_blk {w : World} {g t : Nat} {cs : List Value} (h : w.heap[g]? = some (.cells cs.toArray t (0, 0))) : w.there g 0 cs.length := fun j hj => by
  rw [Nat.zero_add]
  refine ⟨?_, blk_frozen h j⟩
  rw [blk_cell h j]
  simp [hj]
theorem Kp.setCells (w : World) (g : Nat) (vs : List Value) : ∀ o, Kp w (w.setCells g o vs) (fun i => i = g) := by
  induction vs generalizing w with
  | nil => intro o; exact Kp.refl _ _
  | cons v r ih => intro o; exact (Kp.setCell w g o v).trans (ih (w.setCell ⟨g, o, none⟩ v) (o + 1)) (fun _ h => h) (fun _ _ h => h)
set_option maxHeartbeats 4000000 in
theorem without_calls (cb B nn : Nat) (uu : Int) (sv0 : Value) (sn lo hi : Int) (ls : List Lk) (st : List Int) (A : Option Addr) (c : Nat) (us : List Int) (w : World)
    (hw : CareAt w B cb nn uu sv0 sn lo hi ls st) (hO : StOk nn uu ls sn lo hi) (hr : Kd.C (Kd.int .i64) w A us.length us) (hc : us.length ≤ c) (hu : ∀ u ∈ us, 0 ≤ u ∧ u < 20) :
    Calls Try.prog 100 #[.pointer (some ⟨cb, 0, none⟩), .slice A us.length c] w (RowPost w nn ls (ueHi (setUs (looseB st) us)) sn hi) := by
  have HW := Aside0.mk hw
  have HO := Aside0.mk hO
  have HR := Aside0.mk hr
  have HUS := Aside0.mk hu
  have HC := Aside0.mk hc
  clear hw hO hr hu hc
  obtain ⟨wp, fv, hB, hcb, how, hweb⟩ := HW.out
  have HCB := Aside0.mk hcb
  have HWEB := Aside0.mk hweb
  have hrng := care_range hcb (goneB_len st)
  have i144 : (Try.prog.info? 144).map (·.size) = some (setCs (looseB st)).length := by rw [setCs_length, looseB_len]; exact info144
  have HRNG := Aside0.mk (And.intro hrng i144)
  clear hcb hweb hrng i144 hB how
  go_enter Try.func100, Try.ntmps100
  go_wp2_with ((with_reducible refine gate_dst (N := 11) rfl ?_); refine hold ?_)
  refine wpList_load_mid rfl 144 (.tmp 10) rfl cb 22 (by go_simp) (setCs (looseB st)) _ HRNG.out.1 Try.underlying144 rfl HRNG.out.2 ?_
  go_wp2_with ((with_reducible refine gate_dst (N := 5) rfl ?_); refine hold ?_)
  obtain ⟨W1, hW1⟩ : ∃ W1, W1 = w.alloc (.cells (List.replicate 20 (Value.bool false)).toArray 144) := ⟨_, rfl⟩
  refine Kd.event_run (v := .pointer (some ⟨w.heap.size, 0, none⟩)) (w1 := W1) rfl (by rw [hW1]; go_simp) ?_
  obtain ⟨gs, hgs⟩ : ∃ gs, gs = w.heap.size := ⟨_, rfl⟩
  rw [← hgs]
  have hb1 : W1.heap[gs]? = some (.cells (List.replicate 20 (Value.bool false)).toArray 144 (0, 0)) := by rw [hW1, hgs]; exact blk_new w _
  have hB1 : Below w.heap.size w W1 := by rw [hW1]; exact below_alloc (Below.refl _ _) _
  have hlen : (setCs (looseB st)).length = 20 := by rw [setCs_length, looseB_len]
  have hth : W1.there gs 0 (setCs (looseB st)).toArray.size := by
    have := there_blk hb1
    rw [List.size_toArray, hlen]
    exact this
  refine wpList_store_mid rfl 144 (.tmp 5) (.tmp 11) rfl gs 0 (setCs (looseB st)).toArray (by go_simp) (by go_simp) hth (by rw [List.size_toArray]; exact HRNG.out.2) (all_oneCell_toArray (fun v hv => by
    simp only [setCs, List.mem_map] at hv
    obtain ⟨x, _, rfl⟩ := hv
    rfl)) ?_
  obtain ⟨W2, hW2⟩ : ∃ W2, W2 = W1.setCells gs 0 (setCs (looseB st)).toArray.toList := ⟨_, rfl⟩
  rw [← hW2]
  have hb2 : W2.heap[gs]? = some (.cells (setCs (looseB st)).toArray 144 (0, 0)) := by rw [hW2]; exact setCells_all _ _ (by rw [hlen]; rfl) hb1
  have hB2 : Below w.heap.size w W2 := by
    rw [hW2]
    exact hB1.trans ((Kp.setCells W1 gs _ 0).below hB1.size (fun j e => by rw [e, hgs]; exact Nat.le_refl _))
  have HI0 : Aside0 (Below w.heap.size w W2 ∧ w.heap.size ≤ gs ∧ W2.heap[gs]? = some (.cells (setCs (setUs (looseB st) (us.take 0))).toArray 144 (0, 0))) := ⟨hB2, by omega, hb2⟩
  clear hb1 hB1 hlen hth hb2 hB2 hW2 hW1 hgs
  go_wp2
  go_loopw [14] (fun v wr => ∃ (i : Nat), v = .int .i64 i ∧ i ≤ us.length ∧ Aside0 (Below w.heap.size w wr ∧ w.heap.size ≤ gs ∧ wr.heap[gs]? = some (.cells (setCs (setUs (looseB st) (us.take i))).toArray 144 (0, 0)))) (fun v _ => us.length - (intOf v).toNat)
  case atStart => exact ⟨0, rfl, Nat.zero_le _, HI0⟩
  case round =>
    obtain ⟨i, rfl, hile, HI⟩ := hrel
    clear HI0
    obtain ⟨wo, rfl⟩ : ∃ wo, wo = wr := ⟨_, rfl⟩
    by_cases hgo : i < us.length
    · have hcap : us.length ≤ 9223372036854775807 := HR.out.2.1
      have hwi : IntKind.i64.wrap ((i : Int) + 1) = (i : Int) + 1 := by rw [i64_w]; unfold wrap64; omega
      obtain ⟨ad, rfl, e0⟩ := int_get (Kd.C_below HR.out HI.out.1) i hgo
      obtain ⟨u, hu⟩ : ∃ u : Nat, us[i] = (u : Int) := ⟨us[i].toNat, by have := HUS.out us[i] (List.getElem_mem hgo); omega⟩
      have hu20 : u < 20 := by have := HUS.out us[i] (List.getElem_mem hgo); omega
      rw [hu] at e0
      have c0 : ∃ b, wo.cell? ⟨gs, u, none⟩ = some (.bool b) := ⟨(setUs (looseB st) (us.take i))[u]'(by rw [setUs_len, looseB_len]; omega), by
        rw [blk_cell HI.out.2.2 u]
        have : u < (setUs (looseB st) (us.take i)).length := by rw [setUs_len, looseB_len]; omega
        simp [setCs, this]⟩
      obtain ⟨b0, c0⟩ := c0
      have f0 : wo.frozen? ⟨gs, u, none⟩ = false := blk_frozen HI.out.2.2 u
      have HI5 : Aside0 (Below w.heap.size w (wo.setCell ⟨gs, u, none⟩ (.bool true)) ∧ w.heap.size ≤ gs ∧ (wo.setCell ⟨gs, u, none⟩ (.bool true)).heap[gs]? = some (.cells (setCs (setUs (looseB st) (us.take (i + 1)))).toArray 144 (0, 0))) := by
        obtain ⟨h1, h2, h3⟩ := HI.out
        refine ⟨h1.trans ((Kp.setCell wo gs u _).below h1.size (fun j e => by rw [e]; exact h2)), h2, ?_⟩
        have := blk_set h3 u (.bool true)
        rw [this, st_take hgo, hu, setUs_snoc]
        simp [setCs, List.map_set]
      clear hu
      go_wp2
      go_roundw
      case rel => exact ⟨i + 1, by go_num, by omega, HI5⟩
      case measure => simp [intOf]; omega
    · obtain rfl : i = us.length := by omega
      clear hile hgo
      have hI := HI.out
      rw [List.take_length] at hI
      obtain ⟨S', hS'⟩ : ∃ S', S' = setUs (looseB st) us := ⟨_, rfl⟩
      rw [← hS'] at hI ⊢
      have hlS : S'.length = 20 := by rw [hS', setUs_len, looseB_len]
      have hrS : wo.rangeAt gs 0 (setCs S') := fun j v hj => by
        rw [Nat.zero_add, blk_cell hI.2.2 j]; simpa using hj
      have c0 : ∀ W, Below wo.heap.size wo W → W.cell? ⟨cb, 0, none⟩ = some (.pointer (some ⟨wp, 0, none⟩)) := fun W h => blk_cell (blk_below HCB.out (below_step hI.1 h)) 0
      have HWX : Aside0 (∀ W, Below wo.heap.size wo W → WebAt W B wp nn uu sv0 sn lo hi ls) := ⟨fun W h => HWEB.out.below (below_step hI.1 h)⟩
      have hu144 := Try.underlying144
      have hi144 : (Try.prog.info? 144).map (·.size) = some (setCs S').length := by rw [setCs_length, hlS]; exact info144
      have HRS := Aside0.mk hrS
      have HLS := Aside0.mk hlS
      have HBI := Aside0.mk hI.1
      have HSE := Aside0.mk hS'
      clear hI hS' hlS hrS HI
      go_wp2
      go_region_held3 (fun W => Below wo.heap.size wo W ∧ W.rangeAt gs 0 (setCs S')) (first | exact keepC0 (fun W h => range_below HRS.out h) | exact keepC (fun W h => range_below HRS.out h) (by assumption) (by assumption)) (first | (go_at_call 74; refine (last_calls wp B nn uu sv0 sn lo hi ls S' _ (HWX.out _ (And.left (by assumption))) HLS.out HO.out).mono ?_; rintro e w' ⟨g, o, rfl, hg, hgb, hlo, hbh⟩))
      rename_i hHeld
      have HP : Aside0 (w.heap.size ≤ g ∧ w'.heap[g]? = some (.cells (intsCs o) 3 (0, 0)) ∧ LeastAt ls (ueHi (setUs (looseB st) us)) sn hi nn o ∧ Below w.heap.size w w') := by
        have hb := below_step HBI.out hHeld.1
        have h2 : w.heap.size ≤ wo.drew.heap.size := HBI.out.size
        refine ⟨by omega, hgb, ?_, hb⟩
        rw [← HSE.out]; exact hlo
      clear hHeld hg hgb hlo hbh hu144 hi144 c0
      go_wp2
      go_ret
      exact ⟨g, o, rfl, HP.out⟩

/-- A due: node, by. -/
abbrev Du := PB.S41
def duesErr (nn : Int) : List Du → Int
  | [] => 0
  | d :: r => if 0 ≤ d.f0 ∧ d.f0 ≤ nn - 1 then (if 0 ≤ d.f1 ∧ d.f1 ≤ NV then duesErr nn r else 3) else 4
def duesE (nn : Int) (l : List Du) : Int := if 64 < l.length then 9 else duesErr nn l

set_option maxHeartbeats 4000000 in
theorem checkD_calls (cb B : Nat) (nn uu : Int) (sv0 : Value) (sn lo hi : Int) (ls : List Lk) (st : List Int) (A : Option Addr) (c : Nat) (l : List Du) (w : World)
    (hw : CareAt w B cb nn uu sv0 sn lo hi ls st) (hn : 1 ≤ nn ∧ nn ≤ 64) (hr : Kd.C PB.k41 w A l.length l) (hc : l.length ≤ c) :
    Calls Try.prog 91 #[.pointer (some ⟨cb, 0, none⟩), .slice A l.length c] w fun e w' => e = .returned (.int .i64 (duesE nn l)) ∧ Below w.heap.size w w' := by
  have HW := Aside0.mk hw
  have HR := Aside0.mk hr
  have HC := Aside0.mk hc
  have hcap : l.length ≤ 9223372036854775807 := hr.2.1
  obtain ⟨hn1, hn2⟩ := hn
  obtain ⟨wp, fv, hB, hcb, how, hweb⟩ := HW.out
  obtain ⟨-, m, L, cl, hwb, -, -⟩ := hweb
  have HWB := Aside0.mk (And.intro hcb hwb)
  have hwn : IntKind.i64.wrap (nn - 1) = nn - 1 := by rw [i64_w]; unfold wrap64; omega
  clear hw hr hc hB hcb how hwb
  by_cases h64 : 64 < l.length
  · have hd : decide (64 < (l.length : Int)) = true := by simp; omega
    have HE : Aside0 (duesE nn l = 9) := ⟨by unfold duesE; rw [if_pos h64]⟩
    clear h64
    go_enter Try.func91, Try.ntmps91
    go_wp2
    go_ret
    exact ⟨by rw [HE.out]; rfl, Below.refl _ _⟩
  · have hd : decide (64 < (l.length : Int)) = false := by simp; omega
    have HE : Aside0 (duesE nn l = duesErr nn l) := ⟨by unfold duesE; rw [if_neg h64]⟩
    clear h64
    go_enter Try.func91, Try.ntmps91
    go_wp2
    go_loopw [12] (fun v wr => ∃ i : Nat, v = .int .i64 i ∧ i ≤ l.length ∧ Aside0 (Below w.heap.size w wr) ∧ Aside0 (duesErr nn l = duesErr nn (l.drop i))) (fun v _ => l.length - (intOf v).toNat)
    case atStart => exact ⟨0, rfl, Nat.zero_le _, ⟨Below.refl _ _⟩, ⟨rfl⟩⟩
    case round =>
      obtain ⟨i, rfl, hile, HI, HD⟩ := hrel
      obtain ⟨wo, rfl⟩ : ∃ wo, wo = wr := ⟨_, rfl⟩
      by_cases hgo : i < l.length
      · have hwi : IntKind.i64.wrap ((i : Int) + 1) = (i : Int) + 1 := by rw [i64_w]; unfold wrap64; omega
        obtain ⟨d, hdd⟩ : ∃ d, d = l[i] := ⟨_, rfl⟩
        have hrd : PB.rd_T41 l (i : Int) = d := by rw [hdd]; simp [PB.rd_T41, List.getElem?_eq_getElem hgo]
        have ea := PB.at_T41 (Kd.C_below HR.out HI.out) (i : Int) (by omega) (by omega)
        rw [hrd, Int.toNat_natCast] at ea
        obtain ⟨ad, rfl, e0, e1⟩ := ea
        have hdrop : duesErr nn (l.drop i) = if 0 ≤ d.f0 ∧ d.f0 ≤ nn - 1 then (if 0 ≤ d.f1 ∧ d.f1 ≤ NV then duesErr nn (l.drop (i + 1)) else 3) else 4 := by
          rw [List.drop_eq_getElem_cons hgo, ← hdd]; rfl
        have HDR := Aside0.mk hdrop
        obtain ⟨lb, hlb⟩ : ∃ lb, lb = wo.heap.size := ⟨_, rfl⟩
        have hbx : (wo.alloc (.cells #[.int .i64 d.f0, .int .i64 d.f1] 94)).heap[lb]? = some (.cells #[.int .i64 d.f0, .int .i64 d.f1] 94 (0, 0)) := by rw [hlb]; exact blk_new wo _
        have hBx : Below wo.heap.size wo (wo.alloc (.cells #[.int .i64 d.f0, .int .i64 d.f1] 94)) := below_alloc (Below.refl _ _) _
        clear hdd hrd hdrop
        go_wp2
        obtain ⟨W1, hW1⟩ : ∃ W1, W1 = wo.alloc (.cells #[.int .i64 d.f0, .int .i64 d.f1] 94) := ⟨_, rfl⟩
        rw [← hW1] at hbx hBx ⊢
        rw [← hlb]
        have HB1 := Aside0.mk (below_step HI.out hBx)
        have HBX := Aside0.mk hbx
        clear hBx hlb hW1 e0 e1 hbx
        have c0 : ∀ W, Below W1.heap.size W1 W → W.cell? ⟨lb, 0, none⟩ = some (.int .i64 d.f0) := fun W h => blk_cell (blk_below HBX.out h) 0
        have c1 : ∀ W, Below W1.heap.size W1 W → W.cell? ⟨lb, 1, none⟩ = some (.int .i64 d.f1) := fun W h => blk_cell (blk_below HBX.out h) 1
        have c2 : ∀ W, Below W1.heap.size W1 W → W.cell? ⟨cb, 0, none⟩ = some (.pointer (some ⟨wp, 0, none⟩)) := fun W h => blk_cell (blk_below HWB.out.1 (below_step HB1.out h)) 0
        have c3 : ∀ W, Below W1.heap.size W1 W → W.cell? ⟨wp, 0, none⟩ = some (.int .i64 nn) := fun W h => blk_cell (blk_below HWB.out.2 (below_step HB1.out h)) 0
        by_cases hnode : 0 ≤ d.f0 ∧ d.f0 ≤ nn - 1
        · have hF : PB.spread_within.f d.f0 0 (nn - 1) = some true := by rw [within_eq, decide_eq_true hnode]
          have HF := Aside0.mk hF
          have HN := Aside0.mk hnode
          clear hF hnode
          go_region_held3 (fun W => Below W1.heap.size W1 W) (first | exact below_drew1 (Below.refl _ _) | exact below_step (by assumption) (by assumption)) (first | (go_at_call 72; refine ((PB.spread_within.calls _ _ _ _ _ HF.out).mono ?_); rintro e w4 ⟨rfl, hb0⟩; have hb := hb0.below; clear hb0))
          rename_i hH
          have HB4 := Aside0.mk hH
          have d1 := c1 _ hH
          clear c0 c1 c2 c3 hH hb
          by_cases hby : 0 ≤ d.f1 ∧ d.f1 ≤ NV
          · have hF2 : PB.spread_within.f d.f1 0 1099511627776 = some true := by rw [within_eq]; exact congrArg some (decide_eq_true hby)
            have HF2 := Aside0.mk hF2
            have HBY := Aside0.mk hby
            clear hF2 hby
            go_wp2_with (first | (go_at_call 72; refine ((PB.spread_within.calls _ _ _ _ _ HF2.out).mono ?_); rintro e w5 ⟨rfl, hb0⟩; have HB5 := Aside0.mk hb0.below; clear hb0 d1))
            go_roundw
            case rel => exact ⟨i + 1, by go_num, by omega, ⟨below_step HB1.out (below_step HB4.out HB5.out)⟩, ⟨by rw [HD.out, HDR.out, if_pos HN.out, if_pos HBY.out]⟩⟩
            case measure => simp [intOf]; omega
          · have hF2 : PB.spread_within.f d.f1 0 1099511627776 = some false := by rw [within_eq]; exact congrArg some (decide_eq_false hby)
            have HF2 := Aside0.mk hF2
            have HBY := Aside0.mk hby
            clear hF2 hby
            go_wp2_with (first | (go_at_call 72; refine ((PB.spread_within.calls _ _ _ _ _ HF2.out).mono ?_); rintro e w5 ⟨rfl, hb0⟩; have HB5 := Aside0.mk hb0.below; clear hb0 d1))
            go_ret
            exact ⟨by rw [HE.out, HD.out, HDR.out, if_pos HN.out, if_neg HBY.out]; rfl, below_step HB1.out (below_step HB4.out HB5.out)⟩
        · have hF : PB.spread_within.f d.f0 0 (nn - 1) = some false := by rw [within_eq, decide_eq_false hnode]
          have HF := Aside0.mk hF
          have HN := Aside0.mk hnode
          clear hF hnode
          go_region_held3 (fun W => Below W1.heap.size W1 W) (first | exact below_drew1 (Below.refl _ _) | exact below_step (by assumption) (by assumption)) (first | (go_at_call 72; refine ((PB.spread_within.calls _ _ _ _ _ HF.out).mono ?_); rintro e w4 ⟨rfl, hb0⟩; have hb := hb0.below; clear hb0))
          rename_i hH
          have HB4 := Aside0.mk hH
          clear c0 c1 c2 c3 hH hb
          go_wp2
          go_ret
          exact ⟨by rw [HE.out, HD.out, HDR.out, if_neg HN.out]; rfl, below_step HB1.out HB4.out⟩
      · obtain rfl : i = l.length := by omega
        clear hile hgo
        go_wp2
        go_ret
        exact ⟨by rw [HE.out, HD.out, List.drop_length]; rfl, HI.out⟩
end Go.Proofs.Ytgmglpnoppcnkaa
