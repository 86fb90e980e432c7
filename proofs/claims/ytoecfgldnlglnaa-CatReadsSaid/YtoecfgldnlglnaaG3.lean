import Derived.Test.YtoecfgldnlglnaaG2
set_option linter.unusedVariables false
set_option linter.unusedSimpArgs false
set_option linter.unusedSectionVars false
set_option maxRecDepth 20000
namespace Go.Wk
open Go

/-! # Maps -/
section
variable {α : Type} [DecidableEq α]
/-- A map's entries: keys, values, when they were put in. -/
abbrev Kv (α : Type) := List (α × Value × Nat)
def ents (kf : α → Value) (kv : Kv α) : Array MapEntry := (kv.map fun p => ⟨kf p.1, p.2.1, p.2.2⟩).toArray
def findI : Kv α → α → Nat → Option (Nat × Value)
  | [], _, _ => none
  | (a, v, _) :: r, k, i => if k = a then some (i, v) else findI r k (i + 1)
/-- What a key has. -/
def getK : Kv α → α → Option Value
  | [], _ => none
  | (a, v, _) :: r, k => if k = a then some v else getK r k
/-- A value put in under a key, at a time. -/
def setK : Kv α → α → Value → Nat → Kv α
  | [], k, v, t => [(k, v, t)]
  | (a, u, n) :: r, k, v, t => if k = a then (a, v, n) :: r else (a, u, n) :: setK r k v t
def delK : Kv α → α → Kv α
  | [], _ => []
  | (a, u, n) :: r, k => if k = a then r else (a, u, n) :: delK r k
/-- How keys of a type are met. -/
structure KeyT (P : Program) (K : TypeId) (kf : α → Value) : Prop where
  chk : ∀ a b w, (Instr.checkKey b 10000 K (kf a)).run P w = .ok () w
  find : ∀ (kv : Kv α) k w, (Instr.findKey K (kf k) (ents kf kv).toList).run P w = .ok (findI kv k 0) w
  bits : ∀ a, Instr.sameBits 10000 (kf a) (kf a) = true
theorem findI_shift (kv : Kv α) (k : α) : ∀ i, findI kv k i = (findI kv k 0).map fun p => (p.1 + i, p.2) := by
  induction kv with
  | nil => intro i; rfl
  | cons x r ih =>
    obtain ⟨a, v, n⟩ := x
    intro i
    simp only [findI]
    split
    · simp
    · rw [ih (i + 1), ih (0 + 1)]
      cases findI r k 0 <;> simp [Nat.add_comm, Nat.add_left_comm]
theorem findI_get (kv : Kv α) (k : α) (i : Nat) : (findI kv k i).map (·.2) = getK kv k := by
  induction kv generalizing i with
  | nil => rfl
  | cons x r ih =>
    obtain ⟨a, v, n⟩ := x
    simp only [findI, getK]
    split
    · rfl
    · exact ih _
theorem findI_none {kv : Kv α} {k : α} {i : Nat} (h : findI kv k i = none) : getK kv k = none := by rw [← findI_get kv k i, h]; rfl
theorem findI_set {kf : α → Value} : ∀ {kv : Kv α} {k : α} {j : Nat} {u v : Value} {t : Nat}, findI kv k 0 = some (j, u) →
    (ents kf kv).modify j (fun e => { e with key := kf k, val := v }) = ents kf (setK kv k v t) ∧ (ents kf kv).eraseIdxIfInBounds j = ents kf (delK kv k) ∧ ((ents kf kv)[j]?).map (·.key) = some (kf k)
  | [], k, j, u, v, t, h => by cases h
  | (a, x, n) :: r, k, j, u, v, t, h => by
    simp only [findI] at h
    by_cases hk : k = a
    · rw [if_pos hk] at h
      cases h
      subst hk
      simp [ents, setK, delK, Array.modify, Array.modifyM, Array.eraseIdxIfInBounds, Id.run]
      rfl
    · rw [if_neg hk, findI_shift] at h
      cases hf : findI r k 0 with
      | none => simp [hf] at h
      | some p =>
        obtain ⟨j', u'⟩ := p
        simp [hf] at h
        obtain ⟨rfl, rfl⟩ := h
        obtain ⟨h1, h2, h3⟩ := findI_set (kf := kf) (v := v) (t := t) hf
        have h1' := congrArg Array.toList h1
        have h2' := congrArg Array.toList h2
        simp [ents] at h1' h2' h3
        refine ⟨?_, ?_, by simpa [ents] using h3⟩
        · apply Array.toList_inj.1
          simp [ents, setK, hk, h1']
        · apply Array.toList_inj.1
          simp [ents, delK, hk]
          exact h2'

theorem setK_none {kf : α → Value} : ∀ {kv : Kv α} {k : α} {v : Value} {t : Nat}, findI kv k 0 = none → (ents kf kv).push { key := kf k, val := v, born := t } = ents kf (setK kv k v t)
  | [], k, v, t, _ => by simp [ents, setK]
  | (a, x, n) :: r, k, v, t, h => by
    simp only [findI] at h
    by_cases hk : k = a
    · rw [if_pos hk] at h; cases h
    · rw [if_neg hk, findI_shift] at h
      have hf : findI r k 0 = none := by cases hf : findI r k 0 <;> simp [hf] at h ⊢
      have := congrArg Array.toList (setK_none (kf := kf) (v := v) (t := t) hf)
      apply Array.toList_inj.1
      simp [ents, setK, hk] at this ⊢
      exact this
theorem delK_none : ∀ {kv : Kv α} {k : α}, findI kv k 0 = none → delK kv k = kv
  | [], k, _ => rfl
  | (a, x, n) :: r, k, h => by
    simp only [findI] at h
    by_cases hk : k = a
    · rw [if_pos hk] at h; cases h
    · rw [if_neg hk, findI_shift] at h
      have hf : findI r k 0 = none := by cases hf : findI r k 0 <;> simp [hf] at h ⊢
      simp [delK, hk, delK_none hf]
/-- The clock behind a put. -/
def ckK (kv : Kv α) (k : α) (t : Nat) : Nat := if (getK kv k).isSome then t else t + 1
/-- What is told of a map's times. -/
structure KvOk (kv : Kv α) (t : Nat) : Prop where
  keys : (kv.map (·.1)).Nodup
  born : (kv.map (·.2.2)).Nodup
  lt : ∀ p ∈ kv, p.2.2 < t
theorem KvOk.nil : KvOk ([] : Kv α) 0 := ⟨List.nodup_nil, List.nodup_nil, by simp⟩
theorem setK_keys {kv : Kv α} {k : α} {v : Value} {t : Nat} : (setK kv k v t).map (·.1) = if (getK kv k).isSome then kv.map (·.1) else kv.map (·.1) ++ [k] := by
  induction kv with
  | nil => simp [setK, getK]
  | cons x r ih =>
    obtain ⟨a, u, n⟩ := x
    by_cases hk : k = a
    · simp [setK, getK, hk]
    · simp only [setK, getK, hk, if_false, List.map_cons, ih]
      split <;> simp
theorem setK_born {kv : Kv α} {k : α} {v : Value} {t : Nat} : (setK kv k v t).map (·.2.2) = if (getK kv k).isSome then kv.map (·.2.2) else kv.map (·.2.2) ++ [t] := by
  induction kv with
  | nil => simp [setK, getK]
  | cons x r ih =>
    obtain ⟨a, u, n⟩ := x
    by_cases hk : k = a
    · simp [setK, getK, hk]
    · simp only [setK, getK, hk, if_false, List.map_cons, ih]
      split <;> simp
theorem getK_mem {kv : Kv α} {k : α} : (getK kv k).isSome ↔ k ∈ kv.map (·.1) := by
  induction kv with
  | nil => simp [getK]
  | cons x r ih =>
    obtain ⟨a, u, n⟩ := x
    by_cases hk : k = a
    · simp [getK, hk]
    · simp [getK, hk, ih]
theorem KvOk.set {kv : Kv α} {t : Nat} (h : KvOk kv t) (k : α) (v : Value) : KvOk (setK kv k v t) (ckK kv k t) := by
  unfold ckK
  refine ⟨?_, ?_, fun p hp => ?_⟩
  · rw [setK_keys]
    split
    · exact h.keys
    · rename_i hs
      refine List.nodup_append.2 ⟨h.keys, by simp, fun a ha b hb => ?_⟩
      simp at hb; subst hb
      exact fun e => hs (getK_mem.2 (e ▸ ha))
  · rw [setK_born]
    split
    · exact h.born
    · refine List.nodup_append.2 ⟨h.born, by simp, fun a ha b hb => ?_⟩
      simp at hb; subst hb
      obtain ⟨p, hp, rfl⟩ := List.mem_map.1 ha
      have := h.lt p hp; omega
  · have hm : p.2.2 ∈ (setK kv k v t).map (·.2.2) := List.mem_map.2 ⟨p, hp, rfl⟩
    rw [setK_born] at hm
    split at hm
    · rename_i hs; rw [if_pos hs]
      obtain ⟨q, hq, he⟩ := List.mem_map.1 hm
      rw [← he]; exact h.lt q hq
    · rename_i hs; rw [if_neg hs]
      rcases List.mem_append.1 hm with hm | hm
      · obtain ⟨q, hq, he⟩ := List.mem_map.1 hm
        have := h.lt q hq; omega
      · simp at hm; omega
theorem delK_sub {kv : Kv α} {k : α} : (delK kv k).Sublist kv := by
  induction kv with
  | nil => exact List.Sublist.refl _
  | cons x r ih =>
    obtain ⟨a, u, n⟩ := x
    by_cases hk : k = a
    · simp [delK, hk]
    · simp only [delK, hk, if_false]; exact ih.cons_cons _
theorem KvOk.del {kv : Kv α} {t : Nat} (h : KvOk kv t) (k : α) : KvOk (delK kv k) t :=
  ⟨h.keys.sublist (delK_sub.map _), h.born.sublist (delK_sub.map _), fun p hp => h.lt p (delK_sub.subset hp)⟩
theorem getK_set {kv : Kv α} {k j : α} {v : Value} {t : Nat} : getK (setK kv k v t) j = if j = k then some v else getK kv j := by
  induction kv with
  | nil => simp only [setK, getK]
  | cons x r ih =>
    obtain ⟨a, u, n⟩ := x
    by_cases hk : k = a
    · subst hk; simp only [setK, if_true, getK]; split <;> rfl
    · simp only [setK, hk, if_false, getK, ih]
      by_cases hj : j = a
      · subst hj; simp [Ne.symm hk]
      · simp [hj]
theorem getK_del {kv : Kv α} {k j : α} (h : (kv.map (·.1)).Nodup) : getK (delK kv k) j = if j = k then none else getK kv j := by
  induction kv with
  | nil => simp [delK, getK]
  | cons x r ih =>
    obtain ⟨a, u, n⟩ := x
    simp only [List.map_cons, List.nodup_cons] at h
    by_cases hk : k = a
    · subst hk
      simp only [delK, if_true, getK]
      by_cases hj : j = k
      · subst hj
        have : getK r j = none := by
          have := mt getK_mem.1 h.1
          simpa using this
        simp [this]
      · simp [hj]
    · simp only [delK, hk, if_false, getK, ih h.2]
      by_cases hj : j = a
      · subst hj; simp [Ne.symm hk]
      · simp [hj]

variable {c : Cx} {e : Env} {l : Bl} {x y z : Operand} {T K E ty : TypeId} {kf : α → Value} {kv : Kv α} {k : α} {t m : Nat} {v u : Value} {d : Option Tmp} {pos : String} {aft : Array Edge} {g : Option (Nat × Bool)}
theorem run_lookup {P : Program} {w : World} (ok : Bool) (hT : P.underlying T = some (.map K E)) (hK : KeyT P K kf) (hz : Zr P E u) (hm : w.heap[m]? = some (.map (ents kf kv) t)) :
    (Instr.lookup T (.map (some m)) (kf k) ok).run P w = .ok (if ok then .tuple #[(getK kv k).getD u, .bool (getK kv k).isSome] else (getK kv k).getD u) w := by
  unfold Instr.lookup
  simp only [underlying, program, Sem.run_bind, Sem.run, hT, Result.andThen_ok, pure, getObj, hm, hK.chk _ _ w, hK.find kv k w]
  have hg := findI_get kv k 0
  cases hf : findI kv k 0 with
  | none => rw [hf] at hg; simp at hg; simp [hz w, ← hg, pure, Sem.run, Sem.run_bind]
  | some p => rw [hf] at hg; simp at hg; simp [← hg, pure, Sem.run, Sem.run_bind]
theorem lk (hT : c.P.underlying T = some (.map K E)) (hK : KeyT c.P K kf) (hz : Zr c.P E u) (hx : ev e x = some (.map (some m))) (hy : ev e y = some (kf k)) (hm : Has c.R l m (.map (ents kf kv) t)) :
    Sp c l ⟨d, .lookup T x y false, ty, pos, aft, g⟩ e ((getK kv k).getD u) := fun w hv a ha => by
  unfold execOp; simp only [ha.eval hx, ha.eval hy, Sem.run_bind, run_lookup false hT hK hz (hv.get hm)]; rfl
theorem lko (hT : c.P.underlying T = some (.map K E)) (hK : KeyT c.P K kf) (hz : Zr c.P E u) (hx : ev e x = some (.map (some m))) (hy : ev e y = some (kf k)) (hm : Has c.R l m (.map (ents kf kv) t)) :
    Sp c l ⟨d, .lookup T x y true, ty, pos, aft, g⟩ e (.tuple #[(getK kv k).getD u, .bool (getK kv k).isSome]) := fun w hv a ha => by
  unfold execOp; simp only [ha.eval hx, ha.eval hy, Sem.run_bind, run_lookup true hT hK hz (hv.get hm)]; rfl
theorem heap_obj {w : World} {b : Nat} {o o' : Obj} (h : w.heap[b]? = some o) :
    ({ w with heap := w.heap.setIfInBounds b o' } : World).heap[b]? = some o' ∧ (∀ b', b' ≠ b → ({ w with heap := w.heap.setIfInBounds b o' } : World).heap[b']? = w.heap[b']?) ∧ ({ w with heap := w.heap.setIfInBounds b o' } : World).heap.size = w.heap.size := by
  have := lt_of_get h
  refine ⟨by simp [this], fun b' hb' => by simp [Array.getElem?_setIfInBounds_ne (Ne.symm hb')], by simp⟩
theorem Hv.obj {R w0 l0 l l' w b o o'} (h : Hv R w0 l0 l w) (hi : In l b o o' l') : Hv R w0 l0 l' { w with heap := w.heap.setIfInBounds b o' } := by
  obtain ⟨A, B, rfl, rfl⟩ := hi.eq
  obtain ⟨h1, h2, h3⟩ := heap_obj (o' := o') (h.own b _ (List.mem_append_right A (List.mem_cons_self ..)))
  exact h.put _ h1 h2 h3 rfl rfl rfl
theorem run_update {P : Program} {w : World} (hT : P.underlying T = some (.map K E)) (hK : KeyT P K kf) (hm : w.heap[m]? = some (.map (ents kf kv) t)) :
    (Instr.mapUpdate T (.map (some m)) (kf k) v).run P w = .ok () { w with heap := w.heap.setIfInBounds m (.map (ents kf (setK kv k v t)) (ckK kv k t)) } := by
  unfold Instr.mapUpdate
  simp only [underlying, program, Sem.run_bind, Sem.run, hT, Result.andThen_ok, pure, getObj, hm, hK.chk _ _ w, hK.find kv k w]
  have hg := findI_get kv k 0
  unfold ckK
  cases hf : findI kv k 0 with
  | none =>
    rw [hf] at hg; simp at hg
    simp only [← hg, setObj, Sem.run, hm, setK_none hf]
    rfl
  | some p =>
    obtain ⟨j, u'⟩ := p
    rw [hf] at hg; simp at hg
    obtain ⟨h1, h2, h3⟩ := findI_set (kf := kf) (v := v) (t := t) hf
    simp only [h3, Option.getD_some, Instr.keyThatStays, hK.bits, if_true, Sem.run_bind, pure, Sem.run, Result.andThen_ok, setObj, hm, h1, ← hg]
    rfl
/-- 'm[k] = v' -/
theorem eUp {l' : Bl} (hT : c.P.underlying T = some (.map K E)) (hK : KeyT c.P K kf) (hx : ev e x = some (.map (some m))) (hy : ev e y = some (kf k)) (hz : ev e z = some v)
    (hi : In l m (.map (ents kf kv) t) (.map (ents kf (setK kv k v t)) (ckK kv k t)) l') : Ef c l none (.mapUpdate T x y z) e fun _ l'' => l'' = l' := fun F w hv a ha ty pos aft g =>
  .inr (.inl ⟨l', _, by
    unfold execOp; simp only [ha.eval hx, ha.eval hy, ha.eval hz, Sem.run_bind, run_update hT hK (hv.own m _ (List.mem_append_right F hi.mem))]; rfl, rfl, hv.obj (.r hi)⟩)
theorem eDl {l' : Bl} (hT : c.P.underlying T = some (.map K E)) (hK : KeyT c.P K kf) (hx : ev e x = some (.map (some m))) (hy : ev e y = some (kf k))
    (hi : In l m (.map (ents kf kv) t) (.map (ents kf (delK kv k)) t) l') {ts : List TypeId} : Ef c l d (.call ⟨.builtin .delete, #[x, y], (T :: ts).toArray⟩) e fun _ l'' => l'' = l' := fun F w hv a ha ty pos aft g => by
  have hm := hv.own m _ (List.mem_append_right F hi.mem)
  refine .inl ⟨.tuple #[], l', _, ?_, rfl, hv.obj (.r hi)⟩
  unfold execOp
  simp only [resolve, invoke, builtin, Builtin.delete_, Sem.run_bind, ha.eval hx, ha.eval hy, List.map_toArray, List.map, pure, Sem.run, Result.andThen_ok]
  simp only [underlying, program, Sem.run_bind, Sem.run, hT, Result.andThen_ok, pure, getObj, hm, hK.chk _ _ w, hK.find kv k w, List.getElem?_toArray, List.getElem?_cons_zero, List.getElem?_cons_succ]
  cases hf : findI kv k 0 with
  | none => simp only [setObj, Sem.run, hm, delK_none hf, Sem.run_bind, Result.andThen_ok, pure]
  | some p =>
    obtain ⟨j, u'⟩ := p
    obtain ⟨h1, h2, h3⟩ := findI_set (kf := kf) (v := undef) (t := t) hf
    simp only [setObj, Sem.run, hm, h2, Sem.run_bind, Result.andThen_ok, pure]
end
/-! ### Keys that are strings -/
theorem beqT (a : ByteArray) : (a == a) = true := by show ByteArray.beq a a = true; unfold ByteArray.beq; simp
theorem beqF (a b : ByteArray) (h : ¬ a = b) : (a == b) = false := by
  show ByteArray.beq a b = false
  unfold ByteArray.beq
  cases a; cases b; rename_i d d'
  have : ¬ d = d' := fun e => h (by rw [e])
  simpa using this
abbrev strV (s : ByteArray) : Value := .string s
theorem KeyT.str {P : Program} {K : TypeId} (hK : P.underlying K = some .string) : KeyT P K strV where
  chk := fun a b w => by
    rw [show (10000 : Nat) = 9999 + 1 from rfl, Instr.checkKey]
    simp [underlying, program, hK, pure, bind, Sem.bind, Sem.run]
  find := fun kv k w => by
    have h : ∀ (kv : Kv ByteArray) i, Instr.findNow .string (.string k) (ents strV kv).toList i = some (findI kv k i) := by
      intro kv
      induction kv with
      | nil => intro i; rfl
      | cons x r ih =>
        obtain ⟨a, v, n⟩ := x
        intro i
        have ih' := ih (i + 1)
        simp only [ents] at ih' ⊢
        simp only [List.map_cons, Instr.findNow, Instr.sameNow, findI]
        by_cases hk : k = a
        · subst hk
          have := beqT k
          simp only [this, if_true]
        · have := beqF k a hk
          simp only [this, if_neg hk]; exact ih'
    unfold Instr.findKey
    simp only [underlying, program, Sem.run_bind, Sem.run, hK, Result.andThen_ok, pure, h]
  bits := fun a => by
    show Instr.sameBits (9999 + 1) (.string a) (.string a) = true
    rw [Instr.sameBits]; exact beqT a

/-! # Slices -/
section
variable {c : Cx} {e : Env} {l : Bl} {x y z : Operand} {T K E ty : TypeId} {v u : Value} {d : Option Tmp} {pos : String} {aft : Array Edge} {g : Option (Nat × Bool)}
/-- A slice of cells: its elements, and the block that bears them (none where it has no element). -/
inductive SlI (E sz : Nat) : Value → List Value → Bl → Prop
  | emp {p cap} : (p = none → cap = 0) → SlI E sz (.slice p 0 cap) [] []
  | blk {b pre xs sp cap n o} : xs.length = n * sz → o = pre.length → n ≤ cap → SlI E sz (.slice (some ⟨b, o, none⟩) n cap) xs [(b, .cells (pre ++ xs ++ sp).toArray E (0, 0))]
theorem ev_none {e : Env} : (Option.none : Option Operand).map (fun x => x) = none := rfl
theorem run_bound {P : Program} {w : World} {n m : Nat} {cd} (h : n ≤ m) : (Instr.sliceBound (.int .i64 n) m cd).run P w = .ok n w := by
  have k : (0 : Int) ≤ n ∧ (n : Int) ≤ m := ⟨by omega, by omega⟩
  unfold Instr.sliceBound
  simp only [asIntOf, Sem.run_bind, pure, Sem.run, Result.andThen_ok]
  rw [if_pos k]; simp [Sem.run]
/-- A bound that is written, or not. -/
def Bn (e : Env) (o : Option Operand) (n dflt : Nat) : Prop := match o with
  | some o => ev e o = some (.int .i64 n)
  | none => n = dflt
theorem run_bounds {P : Program} {w : World} {a : Act} {N : Nat} (ha : Ag N a e) {b : Bool} {n cap L H M : Nat} {lo hi mx : Option Operand} (hlo : Bn e lo L 0) (hhi : Bn e hi H n) (hmx : Bn e mx M cap) (hm : mx.isSome → hi.isSome) (h1 : L ≤ H) (h2 : H ≤ M) (h3 : M ≤ cap) :
    (Instr.sliceBounds b n cap (lo.map a.eval) (hi.map a.eval) (mx.map a.eval)).run P w = .ok (L, H, M) w := by
  unfold Instr.sliceBounds
  cases mx with
  | none =>
    have hM : M = cap := hmx
    subst hM
    cases hi with
    | none =>
      have hH : H = n := hhi
      subst hH
      cases lo with
      | none => have hL : L = 0 := hlo; subst hL; simp [Sem.run_bind, Sem.run, pure]
      | some o => have hL : ev e o = _ := hlo; simp only [Option.map_none, Option.map_some, ha.eval hL, Sem.run_bind, Sem.run, pure, Result.andThen_ok, run_bound h1]
    | some oh =>
      have hH : ev e oh = _ := hhi
      cases lo with
      | none => have hL : L = 0 := hlo; subst hL; simp only [Option.map_none, Option.map_some, ha.eval hH, Sem.run_bind, Sem.run, pure, Result.andThen_ok, run_bound h2]
      | some o => have hL : ev e o = _ := hlo; simp only [Option.map_none, Option.map_some, ha.eval hL, ha.eval hH, Sem.run_bind, Sem.run, pure, Result.andThen_ok, run_bound h1, run_bound h2]
  | some om =>
    have hM : ev e om = _ := hmx
    cases hi with
    | none => simp at hm
    | some oh =>
      have hH : ev e oh = _ := hhi
      cases lo with
      | none => have hL : L = 0 := hlo; subst hL; simp only [Option.map_none, Option.map_some, ha.eval hH, ha.eval hM, Sem.run_bind, Sem.run, pure, Result.andThen_ok, run_bound h2, run_bound h3]
      | some o => have hL : ev e o = _ := hlo; simp only [Option.map_none, Option.map_some, ha.eval hL, ha.eval hH, ha.eval hM, Sem.run_bind, Sem.run, pure, Result.andThen_ok, run_bound h1, run_bound h2, run_bound h3]
/-- 's[lo:hi:mx]' of a slice. -/
theorem slS {sz n cap L H M : Nat} {p : Option Addr} {lo hi mx : Option Operand} (hT : c.P.underlying T = some (.slice E)) (hs : Sz c.P E sz) (hx : ev e x = some (.slice p n cap))
    (hlo : Bn e lo L 0) (hhi : Bn e hi H n) (hmx : Bn e mx M cap) (hm : mx.isSome → hi.isSome) (h1 : L ≤ H) (h2 : H ≤ M) (h3 : M ≤ cap) :
    Sp c l ⟨d, .slice T x lo hi mx, ty, pos, aft, g⟩ e (.slice (if M = L then p else p.map (·.add (L * sz))) (H - L) (M - L)) := fun w hv a ha => by
  unfold execOp
  simp only [ha.eval hx, Instr.sliceAt, Instr.slice, underlying, program, Sem.run_bind, Sem.run, hT, Result.andThen_ok, pure, run_bounds ha hlo hhi hmx hm h1 h2 h3, hs w]
/-- 's[lo:hi]' of a string. -/
theorem slT {s : ByteArray} {L H : Nat} {lo hi : Option Operand} (hT : c.P.underlying T = some .string) (hx : ev e x = some (.string s))
    (hlo : Bn e lo L 0) (hhi : Bn e hi H s.size) (h1 : L ≤ H) (h2 : H ≤ s.size) :
    Sp c l ⟨d, .slice T x lo hi none, ty, pos, aft, g⟩ e (.string (s.extract L H)) := fun w hv a ha => by
  have hb := run_bounds (P := c.P) (w := w) (b := false) (n := s.size) (cap := s.size) (M := s.size) (mx := none) ha hlo hhi rfl (by simp) h1 h2 (Nat.le_refl _)
  simp only [Option.map_none] at hb
  unfold execOp
  simp only [ha.eval hx, Instr.sliceAt, Instr.slice, underlying, program, Sem.run_bind, Sem.run, hT, Result.andThen_ok, pure, Option.map_none, hb, Option.isSome_none, Bool.false_eq_true, if_false]
/-- '[]T{..}': a new block. -/
theorem eBs {dd sz len : Nat} {ps : List (Nat × Operand)} {vs : List (Nat × Value)} {z0 r : List Value} (hT : c.P.underlying T = some (.slice E)) (hs : Sz c.P E sz) (hz : ∃ zv, Zr c.P E zv ∧ ((Array.range (len * sz)).map (zv.cells[· % zv.cells.size]!)) = z0.toArray) (hsz : 0 < len * sz ∧ len * sz ≤ 16777216)
    (hp : evs e ps = some vs) (hf : Fill (fun i => some (i * sz, sz)) vs z0 r) : Ef c l (some dd) (.buildSlice T len ps.toArray) e fun v l' => ∃ b, v = .slice (some ⟨b, 0, none⟩) len len ∧ l' = (b, .cells r.toArray E (0, 0)) :: l :=
  eNew (vf := fun b => .slice (some ⟨b, 0, none⟩) len len) fun a w ty pos aft g ha => by
    obtain ⟨zv, hz1, hz2⟩ := hz
    have h1 := evs_eq ha hp
    have h2 : (ps.toArray.map fun (i, x) => (i, a.eval x)) = vs.toArray := by simpa using congrArg List.toArray h1
    have hn : ¬ (len * sz > 2 ^ 24) := by omega
    have hn0 : ¬ (len * sz = 0) := by omega
    unfold execOp
    simp only [h2, Instr.buildSlice, underlying, program, Sem.run_bind, Sem.run, hT, Result.andThen_ok, pure, hs w, if_neg hn, if_neg hn0, hz1 w, hz2, hf.run, newRow, newObj]
/-! ### append -/
theorem growBy_le (n : Nat) : ∀ r c, c ≤ 2 * n + 1000 → Builtin.growBy n r c ≤ 2 * n + 1000
  | 0, c, h => h
  | r + 1, c, h => by
    rw [Builtin.growBy]
    split
    · exact h
    · exact growBy_le n r _ (by omega)
theorem nextcap_le {n c : Nat} (h : c < n) : Builtin.nextslicecap n c ≤ 2 * n + 1000 := by
  unfold Builtin.nextslicecap
  split
  · omega
  · split
    · omega
    · exact growBy_le n 4 c (by omega)
theorem firstCells_run {P : Program} {w : World} {sz n cap o b : Nat} {pre xs sp : List Value} {fz} (hb : w.heap[b]? = some (.cells (pre ++ xs ++ sp).toArray E fz)) (ho : o = pre.length) (hn : xs.length = n * sz) :
    (Builtin.firstCells sz n (.slice (some ⟨b, o, none⟩) n cap)).run P w = .ok xs.toArray w := by
  have := loadFrom (P := P) hb (n * sz) o 0 #[] (by simp; omega)
  unfold Builtin.firstCells loadCells
  rw [this]
  subst ho
  simp [← hn]
theorem firstCells_nil {P : Program} {w : World} {sz n m cap : Nat} {p : Option Addr} (h : n * sz = 0) : (Builtin.firstCells sz n (.slice p m cap)).run P w = .ok #[] w := by
  cases p <;> simp [Builtin.firstCells, loadCells, h, loadCellsFrom, pure, Sem.run]
/-- What a slice value tells, of its first cells. -/
theorem SlI.first {P : Program} {w : World} {R l sz v xs bk} (h : SlI E sz v xs bk) (hr : Rv R l w) (hh : ∀ p ∈ bk, Has R l p.1 p.2) : ∃ p n cap, v = .slice p n cap ∧ xs.length = n * sz ∧ (Builtin.firstCells sz n v).run P w = .ok xs.toArray w := by
  cases h with
  | emp => exact ⟨_, 0, _, rfl, by simp, firstCells_nil (by simp)⟩
  | blk hn ho _ => exact ⟨_, _, _, rfl, hn, firstCells_run (hr.get (hh _ (List.mem_cons_self ..))) ho hn⟩
theorem SlI.len {sz v xs bk} (h : SlI E sz v xs bk) : ∃ p n cap, v = .slice p n cap ∧ xs.length = n * sz := by
  cases h with
  | emp => exact ⟨_, 0, _, rfl, by simp⟩
  | blk hn ho _ => exact ⟨_, _, _, rfl, hn⟩
/-- An element type's zero, cells, bytes. -/
def Inf (P : Program) (E : TypeId) (z : Value) (sz by' : Nat) : Prop := (P.info? E).map (fun i => (i.zero, i.size, i.bytes)) = some (some z, sz, by')
theorem Inf.get {P E z sz by'} (h : Inf P E z sz by') : ∃ i, P.info? E = some i ∧ i.zero = some z ∧ i.size = sz ∧ i.bytes = by' := by
  unfold Inf at h
  cases hi : P.info? E with
  | none => simp [hi] at h
  | some i => simp [hi] at h; exact ⟨i, rfl, h.1, h.2.1, h.2.2⟩
theorem cells_at {w : World} {b o : Nat} {pre xs sp : List Value} {E fz} (hb : w.heap[b]? = some (.cells (pre ++ xs ++ sp).toArray E fz)) (ho : o = pre.length) : ∀ j u, xs[j]? = some u → w.cell? (Addr.add ⟨b, o, none⟩ j) = some u := fun j u hj => by
  rw [add_none, ho]
  refine cell_of hb ?_
  have hlt : j < xs.length := by
    rcases Nat.lt_or_ge j xs.length with h | h
    · exact h
    · simp [h] at hj
  rw [List.getElem?_append_left (by simp; omega), List.getElem?_append_right (by omega)]
  simpa using hj
theorem one_oneCell' {v : Value} (h : one v = true) : v.oneCell' = true := by cases v <;> first | rfl | cases h
theorem grow_hv {R w0 l0 l w} (h : Hv R w0 l0 l w) (o : Obj) : Hv R w0 l0 ((w.heap.size, o) :: l) (w.drew.alloc o) := (h.drew (w.drawn + 1)).alloc o
/-- 'append(s, xs...)' where there is no room: a new block. -/
theorem eApG {dd sz by' n m cap cap2 : Nat} {p q : Option Addr} {xs ys : List Value} {bk bk2 : Bl} {zv : Value} (hT : c.P.underlying T = some (.slice E)) (hi : Inf c.P E zv sz by')
    (hx : ev e x = some (.slice p n cap)) (hy : ev e y = some (.slice q m cap2)) (h1 : SlI E sz (.slice p n cap) xs bk) (h2 : SlI E sz (.slice q m cap2) ys bk2) (hb1 : ∀ p ∈ bk, Has c.R l p.1 p.2) (hb2 : ∀ p ∈ bk2, Has c.R l p.1 p.2)
    (hm : 0 < m) (hgrow : cap < n + m) (hlim : (n + m) * by' ≤ 140737488355328) (hlim2 : n + m ≤ 1099511627776) (hzs : zv.cells.size = sz) :
    Ef c l (some dd) (.call ⟨.builtin .append, #[x, y], #[T, T]⟩) e fun v l' => ∃ b nc sp, v = .slice (some ⟨b, 0, none⟩) (n + m) nc ∧ l' = (b, .cells (xs ++ ys ++ sp).toArray E (0, 0)) :: l ∧ n + m ≤ nc ∧ (xs ++ ys ++ sp).length = nc * sz := by
  intro F w hv a ha ty pos aft g
  have hnil : p = none → cap = 0 := by
    intro hp; cases h1 with
    | emp hc => exact hc hp
    | blk => cases hp
  have hr := hv.toRv.suf
  obtain ⟨i, i1, i2, i3, i4⟩ := hi.get
  subst i3; subst i4
  have hxl : xs.length = n * i.size := by obtain ⟨_, _, _, e1, e2⟩ := h1.len; cases e1; exact e2
  have hyl : ys.length = m * i.size := by obtain ⟨_, _, _, e1, e2⟩ := h2.len; cases e1; exact e2
  cases h2 with
  | emp => omega
  | @blk b2 pre2 _ sp2 _ _ o2 k1 k2 k3 =>
  have hys := cells_at (hr.get (hb2 _ (List.mem_cons_self ..))) k2
  have fin : ∀ nc, n + m ≤ nc → ∀ w', (execOp a.eval ⟨some dd, .call ⟨.builtin .append, #[x, y], #[T, T]⟩, ty, pos, aft, g⟩).run c.P w = .ok (.value (.slice (some ⟨w.heap.size, 0, none⟩) (n + m) nc)) w' →
      w' = w.drew.alloc (.cells (xs ++ ys ++ (Builtin.zeroCells zv.cells (nc - (n + m))).toList).toArray E (0, 0)) →
      ∃ v l' w', (execOp a.eval ⟨some dd, .call ⟨.builtin .append, #[x, y], #[T, T]⟩, ty, pos, aft, g⟩).run c.P w = .ok (.value v) w' ∧ (∃ b nc sp, v = .slice (some ⟨b, 0, none⟩) (n + m) nc ∧ l' = (b, .cells (xs ++ ys ++ sp).toArray E (0, 0)) :: l ∧ n + m ≤ nc ∧ (xs ++ ys ++ sp).length = nc * i.size) ∧ Hv c.R c.w0 c.l0 (F ++ l') w' := fun nc hnc w' hrun hw' =>
    ⟨_, (w.heap.size, .cells (xs ++ ys ++ (Builtin.zeroCells zv.cells (nc - (n + m))).toList).toArray E (0, 0)) :: l, w', hrun, ⟨w.heap.size, nc, _, rfl, rfl, hnc, by
      simp only [List.length_append, Array.length_toList, size_zeroCells, hzs, hxl, hyl, ← Nat.add_mul]
      congr 1; omega⟩, by rw [hw']; exact (grow_hv hv _).perm List.perm_middle.symm⟩
  have hop : ∀ r, (Builtin.append_ #[T, T] ty #[.slice p n cap, .slice (some ⟨b2, o2, none⟩) m cap2]).run c.P w = r → (execOp a.eval ⟨some dd, .call ⟨.builtin .append, #[x, y], #[T, T]⟩, ty, pos, aft, g⟩).run c.P w = r.andThen fun v w' => .ok (.value v) w' := fun r hr' => by
    unfold execOp
    simp only [resolve, invoke, builtin, Sem.run_bind, ha.eval hx, ha.eval hy, List.map_toArray, List.map, pure, Sem.run, Result.andThen_ok, hr']
  cases p with
  | none =>
    have hn0 : n = 0 ∧ xs = [] := by cases h1; exact ⟨rfl, rfl⟩
    obtain ⟨rfl, rfl⟩ := hn0
    have hc0 := hnil rfl
    subst hc0
    rw [Nat.zero_add] at hlim
    have := run_append_nil (P := c.P) w T ty E i zv hT i1 i2 ⟨b2, o2, none⟩ m cap2 ys k1 hys hm (by omega) (by omega)
    have h9 := hop _ this
    simp only [Result.andThen_ok] at h9
    refine .inl (fin (grownCap w m 0 E) (by rw [Nat.zero_add]; exact grownCap_ge ..) _ (by rw [h9, Nat.zero_add]) ?_)
    rw [Nat.zero_add]
    congr 2
    apply Array.ext'
    simp
  | some pa =>
    have holds : ∀ j u, xs[j]? = some u → w.cell? (pa.add j) = some u := by
      cases h1 with
      | emp => simp
      | blk j1 j2 _ => exact cells_at (hr.get (hb1 _ (List.mem_cons_self ..))) j2
    have := run_append_grow (P := c.P) w T ty E i zv hT i1 i2 pa n cap xs hxl holds ⟨b2, o2, none⟩ m cap2 ys k1 hys hgrow (by omega) (growslice_fits hgrow hlim)
    refine .inl (fin (grownCap w (n + m) cap E) (grownCap_ge ..) _ (hop _ this) ?_)
    congr 2
    apply Array.ext'
    simp
/-- A slice that is one's own: it may grow. -/
inductive SlO (E sz : Nat) : Value → List Value → Bl → Prop
  | nil : SlO E sz (.slice none 0 0) [] []
  | blk {b xs sp cap n} : xs.length = n * sz → (xs ++ sp).length = cap * sz → n ≤ cap → SlO E sz (.slice (some ⟨b, 0, none⟩) n cap) xs [(b, .cells (xs ++ sp).toArray E (0, 0))]
theorem SlO.toI {sz v xs bk} (h : SlO E sz v xs bk) : SlI E sz v xs bk := by
  cases h with
  | nil => exact .emp (fun _ => rfl)
  | blk h1 h2 h3 => exact .blk (pre := []) h1 rfl h3
/-- 'out = append(out, xs...)' of one's own slice. -/
theorem eApO {dd sz by' n m cap cap2 : Nat} {p q : Option Addr} {xs ys : List Value} {bk bk2 l2 : Bl} {zv : Value} (hT : c.P.underlying T = some (.slice E)) (hi : Inf c.P E zv sz by') (hszp : 0 < sz)
    (hx : ev e x = some (.slice p n cap)) (hy : ev e y = some (.slice q m cap2)) (h1 : SlO E sz (.slice p n cap) xs bk) (h2 : SlI E sz (.slice q m cap2) ys bk2) (hb2 : ∀ p ∈ bk2, Has c.R l2 p.1 p.2) (h1c : ys.all one = true)
    (hm : 0 < m) (hlim : (n + m) * by' ≤ 140737488355328) (hlim2 : n + m ≤ 1099511627776) (hzs : zv.cells.size = sz) :
    Ef c (bk ++ l2) (some dd) (.call ⟨.builtin .append, #[x, y], #[T, T]⟩) e fun v l' => ∃ bk', SlO E sz v (xs ++ ys) bk' ∧ l' = bk' ++ l2 := by
  have hb2' : ∀ p ∈ bk2, Has c.R (bk ++ l2) p.1 p.2 := fun p hp => mA (hb2 p hp)
  by_cases hgrow : cap < n + m
  · intro F w hv a ha ty pos aft g
    have hxl : xs.length = n * sz := by cases h1 with
      | nil => simp
      | blk k1 k2 k3 => exact k1
    have hyl : ys.length = m * sz := by obtain ⟨_, _, _, e1, e2⟩ := h2.len; cases e1; exact e2
    have := eApG (dd := dd) hT hi hx hy h1.toI h2 (fun p hp => .inr (List.mem_append_left _ hp)) hb2' hm hgrow hlim hlim2 hzs F w hv a ha ty pos aft g
    rcases this with ⟨v, l', w', hr, ⟨b, nc, sp, rfl, rfl, h5, h6⟩, hv'⟩ | ⟨l', w', hr, ⟨b, nc, sp, hu, _⟩, _⟩ | ⟨f, args, hr, _⟩
    · refine .inl ⟨_, _, w', hr, ⟨[(b, .cells (xs ++ ys ++ sp).toArray E (0, 0))], .blk (by rw [List.length_append, hxl, hyl, Nat.add_mul]) h6 h5, rfl⟩, hv'.sub ?_⟩
      refine List.Sublist.append_left ?_ F
      exact (List.sublist_append_right bk l2).cons_cons _
    · cases hu
    · exfalso
      obtain ⟨v, l', w', hr', _⟩ | ⟨l', w', hr', ⟨b, nc, sp, hu, _⟩, _⟩ | h := eApG (dd := dd) hT hi hx hy h1.toI h2 (fun p hp => .inr (List.mem_append_left _ hp)) hb2' hm hgrow hlim hlim2 hzs F w hv a ha ty pos aft g
      · rw [hr] at hr'; cases hr'
      · cases hu
      · unfold execOp at hr
        simp only [resolve, invoke, builtin, Sem.run_bind, ha.eval hx, ha.eval hy, List.map_toArray, List.map, pure, Sem.run, Result.andThen_ok] at hr
        revert hr
        cases ((Builtin.append_ #[T, T] ty #[.slice p n cap, .slice q m cap2]).run c.P w) <;> intro hr <;> simp [Sem.run] at hr
  · have hroom : n + m ≤ cap := by omega
    cases h1 with
    | nil => omega
    | @blk b _ sp _ _ k1 k2 k3 =>
    intro F w hv a ha ty pos aft g
    obtain ⟨i, i1, i2, i3, i4⟩ := hi.get
    subst i3; subst i4
    have hr := hv.toRv.suf
    have hyl : ys.length = m * i.size := by obtain ⟨_, _, _, e1, e2⟩ := h2.len; cases e1; exact e2
    cases h2 with
    | emp => omega
    | @blk b2 pre2 _ sp2 _ _ o2 j1 j2 j3 =>
    have hys := cells_at (hr.get (hb2' _ (List.mem_cons_self ..))) j2
    have hg : w.heap[b]? = some (.cells (xs ++ sp).toArray E (0, 0)) := hr.own _ _ (by simp)
    have h1c' : ∀ u ∈ ys, u.oneCell' = true := fun u hu => one_oneCell' (List.all_eq_true.1 h1c u hu)
    have hfit : n * i.size + ys.length ≤ (xs ++ sp).toArray.size := by
      rw [List.size_toArray, k2, hyl, ← Nat.add_mul]; exact Nat.mul_le_mul_right _ hroom
    have hrun := run_append_room (P := c.P) w T ty E i hT i1 b n cap _ hg ⟨b2, o2, none⟩ m cap2 ys j1 hys h1c' hroom hfit
    have hle : ys.length ≤ sp.length := by
      have h4 : (xs ++ sp).length = cap * i.size := k2
      have h5 : (n + m) * i.size ≤ cap * i.size := Nat.mul_le_mul_right _ hroom
      rw [List.length_append, k1] at h4
      rw [Nat.add_mul] at h5
      omega
    have hnew : (List.take (n * i.size) (xs ++ sp) ++ ys ++ List.drop (n * i.size + ys.length) (xs ++ sp)) = xs ++ ys ++ sp.drop ys.length := by
      rw [← k1, List.take_left, List.drop_append]
      simp
    have hop : (execOp a.eval ⟨some dd, .call ⟨.builtin .append, #[x, y], #[T, T]⟩, ty, pos, aft, g⟩).run c.P w = .ok (.value (.slice (some ⟨b, 0, none⟩) (n + m) cap)) (w.setRow b (xs ++ ys ++ sp.drop ys.length).toArray) := by
      unfold execOp
      simp only [resolve, invoke, builtin, Sem.run_bind, ha.eval hx, ha.eval hy, List.map_toArray, List.map, pure, Sem.run, Result.andThen_ok, hrun, List.toList_toArray, hnew]
    refine .inl ⟨_, [(b, .cells (xs ++ ys ++ sp.drop ys.length).toArray E (0, 0))] ++ l2, _, hop, ⟨_, .blk (by rw [List.length_append, k1, hyl, Nat.add_mul]) ?_ hroom, rfl⟩, ?_⟩
    · have h4 : (xs ++ sp).length = cap * i.size := k2
      simp only [List.length_append, List.length_drop] at h4 ⊢
      omega
    · have hA : Hv c.R c.w0 c.l0 (F ++ (b, .cells (xs ++ sp).toArray E (0, 0)) :: l2) w := hv
      have := hA.put (.cells (xs ++ ys ++ sp.drop ys.length).toArray E (0, 0)) (w' := w.setRow b (xs ++ ys ++ sp.drop ys.length).toArray) (setRow_heap w b _ _ E _ hg) (fun b' hb' => setRow_other w b b' _ hb') (by simp) rfl rfl rfl
      exact this
end

/-! # Going through a map -/
section
variable {α : Type} [DecidableEq α]
variable {c : Cx} {e : Env} {l : Bl} {x y z : Operand} {T K E ty : TypeId} {kf : α → Value} {kv : Kv α} {t m : Nat} {v u : Value} {d : Option Tmp} {pos : String} {aft : Array Edge} {g : Option (Nat × Bool)}
theorem eRg {dd : Nat} (hT : c.P.underlying T = some (.map K E)) (hx : ev e x = some (.map (some m))) (hm : Has c.R l m (.map (ents kf kv) t)) :
    Ef c l (some dd) (.range T x) e fun v l' => ∃ b, v = .pointer (some ⟨b, 0, none⟩) ∧ l' = (b, .mapIter (some m) t #[] t) :: l := fun F w hv a ha ty pos aft g => by
  have hm' := hv.toRv.suf.get hm
  refine .inl ⟨_, (w.heap.size, .mapIter (some m) t #[] t) :: l, { w with heap := w.heap.push (.mapIter (some m) t #[] t) }, ?_, ⟨w.heap.size, rfl, rfl⟩, (hv.alloc _).perm List.perm_middle.symm⟩
  unfold execOp
  simp only [Instr.range, ha.eval hx, underlying, program, Sem.run_bind, Sem.run, hT, Result.andThen_ok, pure, getObj, hm', newObj]
/-- What a step through a map leaves. -/
def Nxt (kf : α → Value) (kv : Kv α) (it m t : Nat) (seen : Array Nat) (l : Bl) (v : Value) (l' : Bl) : Prop :=
  (v = .tuple #[.bool false] ∧ l' = l ∧ ∀ p ∈ kv, p.2.2 ∈ seen) ∨
  ∃ p ∈ kv, p.2.2 ∉ seen ∧ v = .tuple #[.bool true, kf p.1, p.2.1] ∧ In l it (.mapIter (some m) t seen t) (.mapIter (some m) t (seen.push p.2.2) t) l'
theorem eNx {dd it : Nat} {seen : Array Nat} (hk : KvOk kv t) (hx : ev e x = some (.pointer (some ⟨it, 0, none⟩))) (hm : Has c.R l m (.map (ents kf kv) t)) (hi : (it, Obj.mapIter (some m) t seen t) ∈ l) :
    Ef c l (some dd) (.next x false) e (Nxt kf kv it m t seen l) := fun F w hv a ha ty pos aft g => by
  have hm' := hv.toRv.suf.get hm
  have hi' := hv.own _ _ (List.mem_append_right F hi)
  obtain ⟨A, B, rfl⟩ := List.append_of_mem hi
  have hnone : (ents kf kv).all (fun e => decide (e.born ≥ t)) = false ∨ (ents kf kv).isEmpty = true := by
    cases kv with
    | nil => exact .inr rfl
    | cons p r =>
      left
      have := hk.lt p (List.mem_cons_self ..)
      simp [ents]
      intro h; omega
  have hnew : ∀ es : Array MapEntry, (∀ e ∈ es, e.born < t) → es.filter (fun e => decide (e.born ≥ t)) = #[] := fun es hes => by
    apply Array.filter_eq_empty_iff.2
    intro e he; have := hes e he; simp; omega
  have hold : ∀ es : Array MapEntry, (∀ e ∈ es, e.born < t) → es.filter (fun e => decide (e.born < t)) = es := fun es hes => by
    apply Array.filter_eq_self.2
    intro e he; have := hes e he; simpa using this
  have hleft : ∀ e ∈ (ents kf kv).filter (fun e => !seen.contains e.born), e.born < t := fun e he => by
    have := (Array.mem_filter.1 he).1
    simp [ents] at this
    obtain ⟨a, b, n, h1, rfl⟩ := this
    exact hk.lt _ h1
  have hcond : ¬ ((!seen.isEmpty && !(ents kf kv).isEmpty && (ents kf kv).all (fun e => decide (e.born ≥ t))) = true) := by
    rcases hnone with h | h
    · rw [h]; simp
    · rw [h]; simp
  unfold Ef at *
  have hgen : ∀ r, (Instr.next (.pointer (some ⟨it, 0, none⟩)) false ty).run c.P w = r → (execOp a.eval ⟨some dd, .next x false, ty, pos, aft, g⟩).run c.P w = r.andThen fun v w' => .ok (.value v) w' := fun r hr => by
    unfold execOp; simp only [ha.eval hx, Sem.run_bind, hr]; rfl
  have hn : (Instr.next (.pointer (some ⟨it, 0, none⟩)) false ty).run c.P w = (Sem.run c.P (do
      let left := (ents kf kv).filter fun e => !seen.contains e.born
      let candidates := (if left.isEmpty then #[none] else #[]) ++ left.map some
      match candidates[← choose (.mapNext candidates.size)]? with
      | some (some e) =>
        setObj it (.mapIter (some m) t (seen.push e.born) t)
        pure (.tuple #[.bool true, e.key, e.val])
      | some none => pure (.tuple #[.bool false])
      | none => stuck "Next: no such candidate" : Sem Value) w) := by
    unfold Instr.next
    simp only [Sem.run_bind, getObj, Sem.run, hi', hm', Result.andThen_ok]
    rw [if_neg hcond]
    simp only [Sem.run_bind, hnew _ hleft, hold _ hleft, Array.append_empty]
    rfl
  cases hL : ((ents kf kv).filter fun e => !seen.contains e.born).isEmpty with
  | true =>
    have hLe : ((ents kf kv).filter fun e => !seen.contains e.born) = #[] := by simpa using hL
    rw [hLe] at hn
    have : (Instr.next (.pointer (some ⟨it, 0, none⟩)) false ty).run c.P w = .ok (.tuple #[.bool false]) w := by
      rw [hn]; simp [choose, Sem.run, Sem.run_bind, Question.forced, pure]
    refine .inl ⟨_, _, w, hgen _ this, .inl ⟨rfl, rfl, fun p hp => ?_⟩, hv⟩
    have h1 := Array.filter_eq_empty_iff.1 hLe ⟨kf p.1, p.2.1, p.2.2⟩ (by simp [ents]; exact ⟨p.1, p.2.1, p.2.2, hp, rfl, rfl, rfl⟩)
    simpa using h1
  | false =>
    obtain ⟨L, hLd⟩ : ∃ L, L = ((ents kf kv).filter fun e => !seen.contains e.born) := ⟨_, rfl⟩
    rw [← hLd] at hL hn
    have hpos : 0 < L.size := by
      rcases Nat.eq_zero_or_pos L.size with h | h
      · simp [Array.size_eq_zero_iff.1 h] at hL
      · exact h
    simp only [hL, Bool.false_eq_true, if_false, Array.empty_append, Array.size_map] at hn
    obtain ⟨i, w1, hi1, hw1, hh⟩ : ∃ i w1, i < L.size ∧ (∃ k, w1 = { w with drawn := k }) ∧ (choose (.mapNext L.size)).run c.P w = .ok i w1 := by
      by_cases h1 : L.size ≤ 1
      · refine ⟨0, w, hpos, ⟨w.drawn, rfl⟩, ?_⟩
        simp [choose, Sem.run, Question.forced, h1]
      · refine ⟨_, _, ?_, ⟨_, rfl⟩, by simp [choose, Sem.run, Question.forced, h1]; exact ⟨rfl, rfl⟩⟩
        simp [Question.cut]; exact Nat.mod_lt _ hpos
    obtain ⟨k, rfl⟩ := hw1
    have hget : (L.map some)[i]? = some (some L[i]) := by simp [hi1]
    have hmem : L[i] ∈ L := Array.getElem_mem hi1
    generalize L[i] = E0 at hget hmem
    rw [hLd] at hmem
    obtain ⟨hm1, hm2⟩ := Array.mem_filter.1 hmem
    simp [ents] at hm1
    obtain ⟨a0, v0, n0, hp, rfl⟩ := hm1
    have hns : n0 ∉ seen := by simpa using hm2
    have hrun : (Instr.next (.pointer (some ⟨it, 0, none⟩)) false ty).run c.P w = .ok (.tuple #[.bool true, kf a0, v0]) { w with drawn := k, heap := w.heap.setIfInBounds it (.mapIter (some m) t (seen.push n0) t) } := by
      rw [hn]
      simp only [Sem.run_bind, hh, Result.andThen_ok, hget, setObj, Sem.run, hi', pure]
    refine .inl ⟨_, A ++ (it, .mapIter (some m) t (seen.push n0) t) :: B, _, hgen _ hrun, .inr ⟨(a0, v0, n0), hp, hns, rfl, .r .h⟩, ?_⟩
    exact (hv.drew k).obj (.r (.r .h))
end

/-! # More -/
section
variable {c : Cx} {e : Env} {l : Bl} {x y z : Operand} {T K E ty : TypeId} {v u : Value} {d : Option Tmp} {pos : String} {aft : Array Edge} {g : Option (Nat × Bool)} {k : IntKind} {n m : Int} {ts : Array TypeId}
theorem mx2 (hx : ev e x = some (.int k n)) (hy : ev e y = some (.int k m)) : Sp c l ⟨d, .call ⟨.builtin .max, #[x, y], ts⟩, ty, pos, aft, g⟩ e (.int k (max n m)) := fun w hv a ha => by
  have : (if m > n then m else n) = max n m := by rw [Int.max_def]; split <;> split <;> omega
  unfold execOp
  simp [resolve, invoke, builtin, Builtin.max_, Builtin.max2, Sem.run_bind, ha.eval hx, ha.eval hy, pure, Sem.run, this]
theorem mn2 (hx : ev e x = some (.int k n)) (hy : ev e y = some (.int k m)) : Sp c l ⟨d, .call ⟨.builtin .min, #[x, y], ts⟩, ty, pos, aft, g⟩ e (.int k (min n m)) := fun w hv a ha => by
  have : (if m < n then m else n) = min n m := by rw [Int.min_def]; split <;> split <;> omega
  unfold execOp
  simp [resolve, invoke, builtin, Builtin.min_, Builtin.min2, Sem.run_bind, ha.eval hx, ha.eval hy, pure, Sem.run, this]
/-- A value under another name. -/
theorem Sp.to {o : Oper} (h : Sp c l o e v) (hv : v = u) : Sp c l o e u := hv ▸ h
/-- Several results. -/
theorem fin2 {P : Program} {n : Nat} {R : Rd} {w0 : World} {l0 : Bl} {fn : Func} {rs : List ResultVar} {vs : List Value} {S : Value → Bl → Prop} (hr : fn.results = rs.toArray) (h : Rs e rs = some vs) (h1 : (vs.length == 1) = false)
    (hk : S (.tuple vs.toArray) l) : Dn ⟨P, n, R, w0, l0⟩ (bodyPost P fn fun e w' => ∃ v l', e = .returned v ∧ S v l' ∧ Hv R w0 l0 l' w') .ret e l :=
  fin hr h (by match vs with | [] => rfl | [_] => simp at h1 | _ :: _ :: _ => rfl) (List.Sublist.refl _) hk
/-- A function without results, at its end. -/
theorem finN {P : Program} {n : Nat} {R : Rd} {w0 : World} {l0 : Bl} {fn : Func} {S : Value → Bl → Prop} (hr : fn.results = #[]) (hk : S (.tuple #[]) l) :
    Dn ⟨P, n, R, w0, l0⟩ (bodyPost P fn fun e w' => ∃ v l', e = .returned v ∧ S v l' ∧ Hv R w0 l0 l' w') .normal e l :=
  finE (rs := []) (vs := []) hr rfl rfl (List.Sublist.refl _) hk
theorem finNr {P : Program} {n : Nat} {R : Rd} {w0 : World} {l0 : Bl} {fn : Func} {S : Value → Bl → Prop} (hr : fn.results = #[]) (hk : S (.tuple #[]) l) :
    Dn ⟨P, n, R, w0, l0⟩ (bodyPost P fn fun e w' => ∃ v l', e = .returned v ∧ S v l' ∧ Hv R w0 l0 l' w') .ret e l :=
  fin (rs := []) (vs := []) hr rfl rfl (List.Sublist.refl _) hk
/-- Owned blocks let go, where a function ends. -/
theorem dDrop {Q : Ps} {xt : Exit} (k : Nat) (h : Dn c Q xt e (l.drop k)) : Dn c Q xt e l := fun w hv a ha => h w (hv.sub (List.drop_sublist k l)) a ha
theorem dSubl {Q : Ps} {xt : Exit} {l' : Bl} (s : l'.Sublist l) (h : Dn c Q xt e l') : Dn c Q xt e l := fun w hv a ha => h w (hv.sub s) a ha
theorem dPerm {Q : Ps} {xt : Exit} {l' : Bl} (s : l.Perm l') (h : Dn c Q xt e l') : Dn c Q xt e l := fun w hv a ha => h w (hv.perm s) a ha
end

section
variable {c : Cx} {ops : Array Oper} {Q : Ps} {rest : List Oper} {e : Env} {l : Bl} {ty : TypeId} {pos : String} {aft : Array Edge} {d : Nat} {xs : List Operand} {ts : Array TypeId} {vs : List Value} {f : FuncId} {l₁ F : Bl} {S : Value → Bl → Prop}
/-- A call that takes some of the owned blocks. -/
theorem clP (hf : Fb c.P f) (hx : evl e xs = some vs) (p : l.Perm (l₁ ++ F)) (ht : Tri c.P f vs (fun b o => c.R b o ∨ (b, o) ∈ F) l₁ S)
    (h : ∀ v l', S v l' → Wo c ops Q rest ((d, v) :: e) (l' ++ F)) : Wo c ops Q (⟨some d, .call ⟨.value (.func f), xs.toArray, ts⟩, ty, pos, aft, none⟩ :: rest) e l :=
  oPerm p (clF hf hx ht h)
theorem Hv.below {R l w w'} (h : Rv R l w) (b : RowKit.Below w.heap.size w w') : Hv R w l l w' :=
  { nd := h.nd, own := fun k o hk => (b.block k (h.lt (mem_keys hk))).trans (h.own k o hk), rd := fun k o hk => (b.block k (lt_of_get (h.rd k o hk))).trans (h.rd k o hk), dis := h.dis, new := fun k hk => .inl hk, ext := fun k hk _ => b.block k hk, size := b.size, os := b.os, tape := b.tape, output := b.output }
/-- A contract of the shelf's, of a function that leaves what there was. -/
theorem Tri.shelf {P : Program} {f : FuncId} {args : List Value} {R : Rd} {l : Bl} {v : Value} (h : ∀ w, Rv R l w → Calls P f args.toArray w fun e w' => e = .returned v ∧ RowKit.Below w.heap.size w w') : Tri P f args R l fun v' l' => v' = v ∧ l' = l :=
  fun w hv => (h w hv).mono fun _ _ ⟨he, hb⟩ => ⟨v, l, he, ⟨rfl, rfl⟩, Hv.below hv hb⟩
/-- A struct handed back out of a variable. -/
theorem finC {P : Program} {n T b k : Nat} {R : Rd} {w0 : World} {l0 l' : Bl} {fn : Func} {s : Tmp} {S : Value → Bl → Prop} {cs vs : List Value} {E fz} (hr : fn.results = #[.cell s T]) (hg : gt e s = some (.pointer (some ⟨b, 0, none⟩))) (hT : AgT P T k)
    (hh : Has R l b (.cells cs.toArray E fz)) (ht : Tk 0 k cs vs) (hs : l'.Sublist l) (hk : S (.agg vs.toArray) l') : Dn ⟨P, n, R, w0, l0⟩ (bodyPost P fn fun e w' => ∃ v l', e = .returned v ∧ S v l' ∧ Hv R w0 l0 l' w') .ret e l := by
  intro w hw a ha
  refine ⟨ha.defers, .agg vs.toArray, ?_, .agg vs.toArray, l', rfl, hk, hw.sub hs⟩
  have h1 := loadFrom (P := P) (hw.toRv.get hh) k 0 0 #[] (by have := ht.eq.2; omega)
  rw [Nat.add_zero, ht.eq.1] at h1
  have hp : a.tmps.getD s undef = .pointer (some ⟨b, 0, none⟩) := by simp [ha.agree s _ hg]
  unfold results
  rw [hr]
  simp only [List.mapM_toArray, List.mapM_cons, List.mapM_nil, Sem.run_bind, hp, asAddr, pure, Sem.run, Result.andThen_ok, loadVar, (hT w).1, (hT w).2, loadCells, h1, if_true, Functor.map, Sem.run_bind']
  simp
end

/-! # Which blocks there are -/
open Classical in
noncomputable def isB (x a : Nat × Obj) : Nat := if x = a then 1 else 0
noncomputable def cnt (a : Nat × Obj) : Bl → Nat
  | [] => 0
  | x :: l => cnt a l + isB x a
theorem cnt_nil (a : Nat × Obj) : cnt a [] = 0 := rfl
theorem cnt_cons (a x : Nat × Obj) (l : Bl) : cnt a (x :: l) = cnt a l + isB x a := rfl
theorem cnt_append (a : Nat × Obj) (l l' : Bl) : cnt a (l ++ l') = cnt a l + cnt a l' := by
  induction l with
  | nil => simp [cnt]
  | cons x l ih => simp only [List.cons_append, cnt_cons, ih]; omega
theorem _root_.List.Perm.cnt {l l' : Bl} (p : l.Perm l') (a : Nat × Obj) : cnt a l = cnt a l' := by
  induction p with
  | nil => rfl
  | cons x _ ih => simp only [cnt_cons, ih]
  | swap x y l => simp only [cnt_cons]; omega
  | trans _ _ h1 h2 => exact h1.trans h2
open Classical in
theorem cnt_count (a : Nat × Obj) (l : Bl) : cnt a l = l.countP (fun x => decide (x = a)) := by
  induction l with
  | nil => rfl
  | cons x l ih => rw [cnt_cons, ih, List.countP_cons]; simp [isB]
open Classical in
theorem permC {l l' : Bl} (h : ∀ a, cnt a l = cnt a l') : l.Perm l' := by
  rw [List.perm_iff_count]
  intro a
  have := h a
  rw [cnt_count, cnt_count] at this
  have hb : (fun x : Nat × Obj => x == a) = fun x => decide (x = a) := by funext x; by_cases h : x = a <;> simp [h]
  show List.countP (fun x => x == a) l = List.countP (fun x => x == a) l'
  rw [hb]; exact this
section
variable {c : Cx} {ops : Array Oper} {Q : Ps} {rest : List Oper} {e : Env} {l : Bl}
open Classical in
theorem cnt_mem {x : Nat × Obj} {l : Bl} (h : 0 < cnt x l) : x ∈ l := by
  rw [cnt_count] at h
  obtain ⟨y, hy, he⟩ := List.countP_pos_iff.1 h
  exact of_decide_eq_true he ▸ hy
theorem subC : ∀ {l' l : Bl}, (∀ a, cnt a l' ≤ cnt a l) → ∃ junk, l.Perm (l' ++ junk)
  | [], l, _ => ⟨l, List.Perm.refl _⟩
  | x :: l', l, h => by
    have h1 : x ∈ l := cnt_mem (by have := h x; rw [cnt_cons] at this; have h2 : isB x x = 1 := by simp [isB]
                                   omega)
    obtain ⟨s, t, rfl⟩ := List.append_of_mem h1
    obtain ⟨j, hj⟩ := subC (l' := l') (l := s ++ t) fun a => by have := h a; simp only [cnt_append, cnt_cons] at this ⊢; omega
    exact ⟨j, List.perm_middle.trans (hj.cons x)⟩
/-- The end of a function: some of what it owns it hands over. -/
theorem finP {P : Program} {n : Nat} {R : Rd} {w0 : World} {l0 : Bl} {fn : Func} {rs : List ResultVar} {v : Value} {S : Value → Bl → Prop} (l' junk : Bl) (hr : fn.results = rs.toArray) (h : Rs e rs = some [v])
    (p : l.Perm (l' ++ junk)) (hk : S v l') : Dn ⟨P, n, R, w0, l0⟩ (bodyPost P fn fun e w' => ∃ v l', e = .returned v ∧ S v l' ∧ Hv R w0 l0 l' w') .ret e l :=
  dPerm p (fin hr h rfl (List.sublist_append_left l' junk) hk)
theorem finPT {P : Program} {n : Nat} {R : Rd} {w0 : World} {l0 : Bl} {fn : Func} {rs : List ResultVar} {vs : List Value} {S : Value → Bl → Prop} (l' junk : Bl) (hr : fn.results = rs.toArray) (h : Rs e rs = some vs) (h1 : (vs.length == 1) = false)
    (p : l.Perm (l' ++ junk)) (hk : S (.tuple vs.toArray) l') : Dn ⟨P, n, R, w0, l0⟩ (bodyPost P fn fun e w' => ∃ v l', e = .returned v ∧ S v l' ∧ Hv R w0 l0 l' w') .ret e l :=
  dPerm p (fin hr h (by match vs with | [] => rfl | [_] => simp at h1 | _ :: _ :: _ => rfl) (List.sublist_append_left l' junk) hk)
theorem finPN {P : Program} {n : Nat} {R : Rd} {w0 : World} {l0 : Bl} {fn : Func} {S : Value → Bl → Prop} (l' junk : Bl) (hr : fn.results = #[])
    (p : l.Perm (l' ++ junk)) (hk : S (.tuple #[]) l') : Dn ⟨P, n, R, w0, l0⟩ (bodyPost P fn fun e w' => ∃ v l', e = .returned v ∧ S v l' ∧ Hv R w0 l0 l' w') .normal e l :=
  dPerm p (finE (rs := []) (vs := []) hr rfl rfl (List.sublist_append_left l' junk) hk)
theorem finQ {P : Program} {n : Nat} {R : Rd} {w0 : World} {l0 : Bl} {fn : Func} {rs : List ResultVar} {v : Value} {S : Value → Bl → Prop} (l' : Bl) (hr : fn.results = rs.toArray) (h : Rs e rs = some [v])
    (p : ∀ a, cnt a l' ≤ cnt a l) (hk : S v l') : Dn ⟨P, n, R, w0, l0⟩ (bodyPost P fn fun e w' => ∃ v l', e = .returned v ∧ S v l' ∧ Hv R w0 l0 l' w') .ret e l :=
  let ⟨j, hj⟩ := subC p
  finP l' j hr h hj hk
theorem finQT {P : Program} {n : Nat} {R : Rd} {w0 : World} {l0 : Bl} {fn : Func} {rs : List ResultVar} {vs : List Value} {S : Value → Bl → Prop} (l' : Bl) (hr : fn.results = rs.toArray) (h : Rs e rs = some vs) (h1 : (vs.length == 1) = false)
    (p : ∀ a, cnt a l' ≤ cnt a l) (hk : S (.tuple vs.toArray) l') : Dn ⟨P, n, R, w0, l0⟩ (bodyPost P fn fun e w' => ∃ v l', e = .returned v ∧ S v l' ∧ Hv R w0 l0 l' w') .ret e l :=
  let ⟨j, hj⟩ := subC p
  finPT l' j hr h h1 hj hk
theorem finQN {P : Program} {n : Nat} {R : Rd} {w0 : World} {l0 : Bl} {fn : Func} {S : Value → Bl → Prop} (l' : Bl) (hr : fn.results = #[])
    (p : ∀ a, cnt a l' ≤ cnt a l) (hk : S (.tuple #[]) l') : Dn ⟨P, n, R, w0, l0⟩ (bodyPost P fn fun e w' => ∃ v l', e = .returned v ∧ S v l' ∧ Hv R w0 l0 l' w') .normal e l :=
  let ⟨j, hj⟩ := subC p
  finPN l' j hr hj hk
theorem dSub {Q : Ps} {xt : Exit} (l' : Bl) (p : ∀ a, cnt a l' ≤ cnt a l) (h : Dn c Q xt e l') : Dn c Q xt e l :=
  let ⟨j, hj⟩ := subC p
  dPerm hj (dSubl (List.sublist_append_left l' j) h)
theorem clQG {d : Nat} {fo : Operand} {xs : List Operand} {ts : Array TypeId} {vs ws : List Value} {f : FuncId} {fst cap : Array Value} {S : Value → Bl → Prop} {ty : TypeId} {pos : String} {aft : Array Edge} (hfo : ev e fo = some (.func (.func f) fst cap)) (hx : evl e xs = some vs) (hf : Fb c.P f)
    (hw : fst.toList ++ vs ++ cap.toList = ws) (l₁ F : Bl) (p : ∀ a, cnt a l = cnt a (l₁ ++ F)) (ht : Tri c.P f ws (fun b o => c.R b o ∨ (b, o) ∈ F) l₁ S)
    (h : ∀ v l', S v l' → Wo c ops Q rest ((d, v) :: e) (l' ++ F)) : Wo c ops Q (⟨some d, .call ⟨.value fo, xs.toArray, ts⟩, ty, pos, aft, none⟩ :: rest) e l :=
  oPerm (permC p) (clG hfo hx hf hw (ht.frame F) fun v l' ⟨l₂, he, hS⟩ => he ▸ h v l₂ hS)
theorem clQ {d : Nat} {xs : List Operand} {ts : Array TypeId} {vs : List Value} {f : FuncId} {S : Value → Bl → Prop} {ty : TypeId} {pos : String} {aft : Array Edge} (hf : Fb c.P f) (hx : evl e xs = some vs) (l₁ F : Bl) (p : ∀ a, cnt a l = cnt a (l₁ ++ F)) (ht : Tri c.P f vs (fun b o => c.R b o ∨ (b, o) ∈ F) l₁ S)
    (h : ∀ v l', S v l' → Wo c ops Q rest ((d, v) :: e) (l' ++ F)) : Wo c ops Q (⟨some d, .call ⟨.value (.func f), xs.toArray, ts⟩, ty, pos, aft, none⟩ :: rest) e l :=
  clP hf hx (permC p) ht h
end
/-- A slice without its spare room. -/
theorem SlI.clip {E sz n cap : Nat} {p : Option Addr} {xs bk} (h : SlI E sz (.slice p n cap) xs bk) : SlI E sz (.slice p n n) xs bk ∧ n ≤ cap := by
  cases h with
  | emp h => exact ⟨.emp (fun _ => rfl), Nat.zero_le _⟩
  | blk h1 h2 h3 => exact ⟨.blk h1 h2 (Nat.le_refl _), h3⟩
/-- A beginning of a slice. -/
theorem SlI.take {E sz n cap k : Nat} {p : Option Addr} {xs bk} (h : SlI E sz (.slice p n cap) xs bk) (hk : k ≤ n) : ∃ bk', SlI E sz (.slice p k cap) (xs.take (k * sz)) bk' ∧ (bk' = bk) := by
  cases h with
  | emp h =>
    obtain rfl : k = 0 := by omega
    exact ⟨[], by simpa using .emp h, rfl⟩
  | @blk b pre xs sp cap n o h1 h2 h3 =>
    refine ⟨_, ?_, rfl⟩
    have : (pre ++ xs ++ sp) = (pre ++ xs.take (k * sz) ++ (xs.drop (k * sz) ++ sp)) := by
      rw [List.append_assoc, List.append_assoc, ← List.append_assoc (xs.take _), List.take_append_drop]
    rw [this]
    refine .blk ?_ h2 (by omega)
    have : k * sz ≤ n * sz := Nat.mul_le_mul_right _ hk
    simp; omega
end Go.Wk
