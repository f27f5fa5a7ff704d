/- Maps with keys of type int: looking up and storing, run by run. -/
import Derived.Test.YtgmglpnoppcnkaaPBx
import Derived.Carry
namespace Go.Proofs.Ytgmglpnoppcnkaa
open Go.RowKit Go.Proofs.YtgmglpnoppcnkaaW.PrintWords Go.Proofs.YtgmglpnoppcnkaaW.PrintLast Go.Proofs.YtgmglpnoppcnkaaW.PrintMore
set_option linter.unusedVariables false
set_option linter.unusedSimpArgs false
set_option maxRecDepth 100000

/-- An entry: key, value, stamp. -/
abbrev Ent := Int × Value × Nat
def mkE (x : Ent) : MapEntry := { key := .int .i64 x.1, val := x.2.1, born := x.2.2 }
/-- The map in block m. -/
def MapAt (w : World) (m : Nat) (L : List Ent) (clock : Nat) : Prop := w.heap[m]? = some (.map (L.map mkE).toArray clock)
def lookL : List Ent → Int → Option Value
  | [], _ => none
  | x :: L, k => if k = x.1 then some x.2.1 else lookL L k
def idxL : List Ent → Int → Nat → Option (Nat × Value)
  | [], _, _ => none
  | x :: L, k, i => if k = x.1 then some (i, x.2.1) else idxL L k (i + 1)
theorem idxL_look (L : List Ent) (k : Int) : ∀ i, (idxL L k i).map (·.2) = lookL L k := by
  induction L with
  | nil => intro i; rfl
  | cons x L ih => intro i; simp only [idxL, lookL]; split <;> simp [ih]
theorem findNow_int (L : List Ent) (k : Int) : ∀ i, Instr.findNow (.int .i64) (.int .i64 k) (L.map mkE) i = some (idxL L k i) := by
  induction L with
  | nil => intro i; rfl
  | cons x L ih =>
    intro i
    simp only [List.map_cons, Instr.findNow, mkE, Instr.sameNow, if_true, idxL]
    by_cases h : k = x.1
    · simp [h]
    · have e : (k == x.1) = false := by simp [h]
      rw [e, if_neg h]
      exact ih (i + 1)

theorem run_findKey (w : World) (L : List Ent) (k : Int) : (Instr.findKey 3 (.int .i64 k) (L.map mkE)).run Try.prog w = .ok (idxL L k 0) w := by
  simp only [Instr.findKey, Sem.run_bind, run_underlying Try.underlying3, Result.andThen, findNow_int, Sem.run_pure]

theorem run_checkKey (w : World) (b : Bool) (n : Nat) (k : Int) : (Instr.checkKey b (n + 1) 3 (.int .i64 k)).run Try.prog w = .ok () w := by
  simp only [Instr.checkKey, Sem.run_bind, run_underlying Try.underlying3, Result.andThen, Sem.run_pure]

theorem run_getMap {w : World} {m : Nat} {L : List Ent} {c : Nat} (h : MapAt w m L c) : (getObj m).run Try.prog w = .ok (.map (L.map mkE).toArray c) w := by
  simp [getObj, Sem.run, show w.heap[m]? = _ from h]

/-- m[k] -/
theorem run_look (w : World) (T e : TypeId) (hT : Try.prog.underlying T = some (.map 3 e)) (z : Value) (hz : (zeroValue e).run Try.prog w = .ok z w) (m : Nat) (L : List Ent) (c : Nat) (h : MapAt w m L c) (k : Int) :
    (Instr.lookup T (.map (some m)) (.int .i64 k) false).run Try.prog w = .ok ((lookL L k).getD z) w := by
  rw [← idxL_look L k 0]
  simp only [Instr.lookup, Sem.run_bind, run_underlying hT, Result.andThen, run_getMap h, Sem.run_pure, run_checkKey, run_findKey]
  cases idxL L k 0 with
  | none => simp only [Sem.run_bind, hz, Result.andThen, Sem.run_pure]; rfl
  | some r => rfl
/-- v, ok := m[k] -/
theorem run_look_ok (w : World) (T e : TypeId) (hT : Try.prog.underlying T = some (.map 3 e)) (z : Value) (hz : (zeroValue e).run Try.prog w = .ok z w) (m : Nat) (L : List Ent) (c : Nat) (h : MapAt w m L c) (k : Int) :
    (Instr.lookup T (.map (some m)) (.int .i64 k) true).run Try.prog w = .ok (.tuple #[(lookL L k).getD z, .bool (lookL L k).isSome]) w := by
  rw [← idxL_look L k 0]
  simp only [Instr.lookup, Sem.run_bind, run_underlying hT, Result.andThen, run_getMap h, Sem.run_pure, run_checkKey, run_findKey]
  cases idxL L k 0 with
  | none => simp only [Sem.run_bind, hz, Result.andThen, Sem.run_pure]; rfl
  | some r => rfl

/-- What a store leaves. -/
def putL (L : List Ent) (c : Nat) (k : Int) (v : Value) : List Ent := if (lookL L k).isSome then setL L k v else L ++ [(k, v, c)]
where
  setL : List Ent → Int → Value → List Ent
  | [], _, _ => []
  | x :: L, k, v => if k = x.1 then (k, v, x.2.2) :: L else x :: setL L k v

theorem modify_idx (L : List Ent) (k : Int) (v : Value) : ∀ i j u, idxL L k i = some (j, u) → ∃ d, j = i + d ∧ ((L.map mkE)[d]?).map (·.key) = some (.int .i64 k) ∧ (L.map mkE).modify d (fun e => { e with key := .int .i64 k, val := v }) = (putL.setL L k v).map mkE := by
  induction L with
  | nil => intro i j u h; simp [idxL] at h
  | cons x L ih =>
    intro i j u h
    simp only [idxL] at h
    by_cases hk : k = x.1
    · rw [if_pos hk] at h
      simp only [Option.some.injEq, Prod.mk.injEq] at h
      refine ⟨0, by omega, ?_, ?_⟩
      · simp [mkE, hk]
      · simp [putL.setL, hk, mkE]
    · rw [if_neg hk] at h
      obtain ⟨d, hd, h1, h2⟩ := ih (i + 1) j u h
      refine ⟨d + 1, by omega, ?_, ?_⟩
      · simpa using h1
      · simp only [List.map_cons, List.modify_succ_cons, putL.setL, if_neg hk, List.map_cons]
        rw [h2]

theorem lookL_set (L : List Ent) (k k' : Int) (v : Value) (h : (lookL L k).isSome = true) : lookL (putL.setL L k v) k' = if k' = k then some v else lookL L k' := by
  induction L with
  | nil => simp [lookL] at h
  | cons x L ih =>
    simp only [putL.setL]
    by_cases hk : k = x.1
    · rw [if_pos hk]
      simp only [lookL, ← hk]
      by_cases h1 : k' = k
      · rw [if_pos h1, if_pos h1]
      · rw [if_neg h1, if_neg h1, if_neg h1]
    · rw [if_neg hk]
      simp only [lookL, if_neg hk] at h ⊢
      rw [ih h]
      by_cases h1 : k' = x.1
      · rw [if_pos h1, if_pos h1, if_neg (by rw [h1]; exact fun e => hk e.symm)]
      · rw [if_neg h1, if_neg h1]
theorem lookL_append (L : List Ent) (k k' : Int) (v : Value) (c : Nat) (h : lookL L k = none) : lookL (L ++ [(k, v, c)]) k' = if k' = k then some v else lookL L k' := by
  induction L with
  | nil => simp [lookL]
  | cons x L ih =>
    simp only [lookL] at h ⊢
    by_cases hk : k = x.1
    · rw [if_pos hk] at h; cases h
    · rw [if_neg hk] at h
      simp only [List.cons_append, lookL]
      rw [ih h]
      by_cases h1 : k' = x.1
      · rw [if_pos h1, if_pos h1, if_neg (by rw [h1]; exact fun e => hk e.symm)]
      · rw [if_neg h1, if_neg h1]
theorem lookL_put (L : List Ent) (c : Nat) (k k' : Int) (v : Value) : lookL (putL L c k v) k' = if k' = k then some v else lookL L k' := by
  unfold putL
  split
  · rename_i h; exact lookL_set L k k' v h
  · rename_i h; exact lookL_append L k k' v c (by simpa using h)

/-- m[k] = v -/
theorem run_store (w : World) (T e : TypeId) (hT : Try.prog.underlying T = some (.map 3 e)) (m : Nat) (L : List Ent) (c : Nat) (h : MapAt w m L c) (k : Int) (v : Value) :
    ∃ c', (Instr.mapUpdate T (.map (some m)) (.int .i64 k) v).run Try.prog w = .ok () { w with heap := w.heap.setIfInBounds m (.map ((putL L c k v).map mkE).toArray c') } := by
  have hset : ∀ o : Obj, (setObj m o).run Try.prog w = .ok () { w with heap := w.heap.setIfInBounds m o } := fun o => by simp [setObj, Sem.run, show w.heap[m]? = _ from h]
  simp only [Instr.mapUpdate, Sem.run_bind, run_underlying hT, Result.andThen, run_getMap h, run_checkKey, run_findKey]
  have hl := idxL_look L k 0
  cases hi : idxL L k 0 with
  | none =>
    rw [hi] at hl
    have hl' : lookL L k = none := hl.symm
    refine ⟨c + 1, ?_⟩
    simp only [hset]
    unfold putL
    rw [hl']
    simp [mkE]
  | some r =>
    obtain ⟨j, u⟩ := r
    rw [hi] at hl
    have hl' : lookL L k = some u := hl.symm
    obtain ⟨d, hd, h1, h2⟩ := modify_idx L k v 0 j u hi
    obtain rfl : j = d := by omega
    refine ⟨c, ?_⟩
    have hkey : (((L.map mkE).toArray[j]?).map (·.key)).getD (.int .i64 k) = .int .i64 k := by
      rw [List.getElem?_toArray, h1]; rfl
    simp only [Sem.run_bind, hkey, Instr.keyThatStays, Instr.sameBits, beq_self_eq_true, Bool.and_self, if_true, Sem.run_pure, Result.andThen, hset]
    unfold putL
    rw [hl']
    simp only [Option.isSome_some, if_true]
    rw [← h2]
    simp
end Go.Proofs.Ytgmglpnoppcnkaa
