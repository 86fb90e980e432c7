import Derived.Test.YtoecfgldnlglnaaXDskM
import Derived.Sort.Walk0
set_option linter.unusedVariables false
/-! # The disk, as lists: order -/
namespace Go.Wk.Dsk
open Go Go.Wk
theorem sLt_eq (s t : ByteArray) : sLt s t = decide (s.data.toList < t.data.toList) := by unfold sLt; rw [Go.Proofs.bytesLess_eq]
theorem sLt_irrefl (s : ByteArray) : sLt s s = false := by rw [sLt_eq]; simp [List.lt_irrefl]
theorem sLt_trans {s t u : ByteArray} (h : sLt s t = true) (h' : sLt t u = true) : sLt s u = true := by
  rw [sLt_eq] at *; simp at *; exact List.lt_trans h h'
theorem sLt_tri {s t : ByteArray} (h : sLt s t = false) (hn : s ≠ t) : sLt t s = true := by
  cases h' : sLt t s
  · rw [sLt_eq] at h h'
    simp only [decide_eq_false_iff_not] at h h'
    have := List.le_antisymm (List.not_lt.1 h) (List.not_lt.1 h')
    exact absurd (ByteArray.ext (Array.toList_inj.1 this.symm)) hn
  · rfl
theorem sLt_asymm {s t : ByteArray} (h : sLt s t = true) : sLt t s = false := by
  cases h' : sLt t s
  · rfl
  · have := sLt_trans h h'; rw [sLt_irrefl] at this; cases this
theorem sLt_ne {s t : ByteArray} (h : sLt s t = true) : s ≠ t := fun e => by subst e; rw [sLt_irrefl] at h; cases h
/-- Files by rising names. -/
def Sd (fs : Fs) : Prop := fs.Pairwise fun a b => sLt a.1 b.1 = true
theorem Sd.nodup {fs : Fs} (h : Sd fs) : (fs.map (·.1)).Nodup := by
  rw [List.Nodup, List.pairwise_map]
  exact h.imp fun h => sLt_ne h
theorem get_mem {fs : Fs} {n : ByteArray} {f : File} : get fs n = some f → (n, f) ∈ fs := by
  induction fs with
  | nil => intro h; cases h
  | cons x r ih =>
    obtain ⟨m, g⟩ := x
    simp only [get]
    split
    · intro h; cases h; rename_i e; subst e; exact List.mem_cons_self ..
    · intro h; exact List.mem_cons_of_mem _ (ih h)
theorem get_of_mem {fs : Fs} (hn : (fs.map (·.1)).Nodup) {n : ByteArray} {f : File} (h : (n, f) ∈ fs) : get fs n = some f := by
  induction fs with
  | nil => cases h
  | cons x r ih =>
    obtain ⟨m, g⟩ := x
    simp only [List.map_cons, List.nodup_cons] at hn
    simp only [get]
    rcases List.mem_cons.1 h with h | h
    · cases h; simp
    · have : n ≠ m := fun e => hn.1 (e ▸ List.mem_map.2 ⟨_, h, rfl⟩)
      rw [if_neg this]; exact ih hn.2 h
theorem get_none {fs : Fs} {n : ByteArray} : get fs n = none ↔ n ∉ fs.map (·.1) := by
  induction fs with
  | nil => simp [get]
  | cons x r ih =>
    obtain ⟨m, g⟩ := x
    simp only [get, List.map_cons, List.mem_cons, not_or]
    split
    · rename_i e; simp [e]
    · rename_i e; rw [ih]; exact ⟨fun h => ⟨e, h⟩, fun h => h.2⟩
theorem get_perm {fs gs : Fs} (p : fs.Perm gs) (hn : (gs.map (·.1)).Nodup) (n : ByteArray) : get fs n = get gs n := by
  have hn' : (fs.map (·.1)).Nodup := (p.map _).nodup_iff.2 hn
  cases h : get gs n with
  | none => rw [get_none] at h ⊢; exact fun h' => h ((p.map _).mem_iff.1 h')
  | some f => exact get_of_mem hn' (p.mem_iff.2 (get_mem h))
/-- Put in, as a map does. -/
def setF : Fs → ByteArray → File → Fs
  | [], n, f => [(n, f)]
  | (m, g) :: r, n, f => if n = m then (m, f) :: r else (m, g) :: setF r n f
theorem drop_eq {fs : Fs} (hn : (fs.map (·.1)).Nodup) (n : ByteArray) : drop fs n = fs.filter (fun p => decide (p.1 ≠ n)) := by
  induction fs with
  | nil => rfl
  | cons x r ih =>
    obtain ⟨m, g⟩ := x
    simp only [List.map_cons, List.nodup_cons] at hn
    simp only [drop]
    by_cases e : n = m
    · subst e
      simp only [if_true, List.filter_cons, ne_eq, not_true, decide_false, Bool.false_eq_true, if_false]
      symm
      rw [List.filter_eq_self]
      intro a ha
      simp only [decide_eq_true_eq]
      exact fun e => hn.1 (e ▸ List.mem_map.2 ⟨a, ha, rfl⟩)
    · simp [e, Ne.symm e, ih hn.2]
theorem drop_perm {fs gs : Fs} (p : fs.Perm gs) (hn : (gs.map (·.1)).Nodup) (n : ByteArray) : (drop fs n).Perm (drop gs n) := by
  rw [drop_eq hn, drop_eq ((p.map _).nodup_iff.2 hn)]; exact p.filter _
theorem setF_perm {fs : Fs} (hn : (fs.map (·.1)).Nodup) (n : ByteArray) (f : File) : (setF fs n f).Perm ((n, f) :: drop fs n) := by
  induction fs with
  | nil => exact List.Perm.refl _
  | cons x r ih =>
    obtain ⟨m, g⟩ := x
    simp only [List.map_cons, List.nodup_cons] at hn
    simp only [setF, drop]
    split
    · rename_i e; subst e; exact List.Perm.refl _
    · exact ((ih hn.2).cons _).trans (List.Perm.swap ..)
theorem put_perm {fs : Fs} (hs : Sd fs) (n : ByteArray) (f : File) : (put fs n f).Perm ((n, f) :: drop fs n) := by
  induction fs with
  | nil => exact List.Perm.refl _
  | cons x r ih =>
    obtain ⟨m, g⟩ := x
    have hs' := List.pairwise_cons.1 hs
    simp only [put, drop]
    by_cases e : n = m
    · simp [e]
    · simp only [if_neg e]
      by_cases h : sLt n m = true
      · simp only [h, if_true]
        have : drop r n = r := by
          rw [drop_eq (Sd.nodup hs'.2), List.filter_eq_self]
          intro a ha
          simp only [decide_eq_true_eq]
          exact fun e' => sLt_ne (sLt_trans h (hs'.1 a ha)) e'.symm
        rw [this]
      · simp only [h, Bool.false_eq_true, if_false]
        exact ((ih hs'.2).cons _).trans (List.Perm.swap ..)
theorem put_mem {fs : Fs} {n : ByteArray} {f : File} {p} : p ∈ put fs n f → p = (n, f) ∨ p ∈ fs := by
  induction fs with
  | nil => simp [put]
  | cons x r ih =>
    obtain ⟨m, g⟩ := x
    simp only [put]
    split
    · intro h; rcases List.mem_cons.1 h with h | h
      · exact .inl h
      · exact .inr (List.mem_cons_of_mem _ h)
    · split
      · intro h; rcases List.mem_cons.1 h with h | h
        · exact .inl h
        · exact .inr h
      · intro h; rcases List.mem_cons.1 h with h | h
        · exact .inr (h ▸ List.mem_cons_self ..)
        · exact (ih h).imp id (List.mem_cons_of_mem _)
theorem Sd.put {fs : Fs} (hs : Sd fs) (n : ByteArray) (f : File) : Sd (put fs n f) := by
  induction fs with
  | nil => exact List.pairwise_singleton ..
  | cons x r ih =>
    obtain ⟨m, g⟩ := x
    have hs' := List.pairwise_cons.1 hs
    simp only [Dsk.put]
    by_cases e : n = m
    · subst e; simp only [if_true]; exact List.pairwise_cons.2 ⟨fun a ha => hs'.1 a ha, hs'.2⟩
    · simp only [if_neg e]
      by_cases h : sLt n m = true
      · simp only [h, if_true]
        refine List.pairwise_cons.2 ⟨fun a ha => ?_, hs⟩
        rcases List.mem_cons.1 ha with rfl | ha
        · exact h
        · exact sLt_trans h (hs'.1 a ha)
      · simp only [h, Bool.false_eq_true, if_false]
        refine List.pairwise_cons.2 ⟨fun a ha => ?_, ih hs'.2⟩
        rcases put_mem ha with rfl | ha
        · exact sLt_tri (by simpa using h) e
        · exact hs'.1 a ha
theorem drop_sub {fs : Fs} {n : ByteArray} : (drop fs n).Sublist fs := by
  induction fs with
  | nil => exact List.Sublist.refl _
  | cons x r ih =>
    obtain ⟨m, g⟩ := x
    simp only [drop]
    split
    · exact List.sublist_cons_self ..
    · exact ih.cons_cons _
theorem Sd.drop {fs : Fs} (hs : Sd fs) (n : ByteArray) : Sd (drop fs n) := hs.sublist drop_sub
theorem put_setF {fs gs : Fs} (p : fs.Perm gs) (hs : Sd gs) (n : ByteArray) (f : File) : (setF fs n f).Perm (put gs n f) :=
  (setF_perm ((p.map _).nodup_iff.2 hs.nodup) n f).trans (((drop_perm p hs.nodup n).cons _).trans (put_perm hs n f).symm)
theorem get_put {fs : Fs} (hs : Sd fs) (n m : ByteArray) (f : File) : get (put fs n f) m = if m = n then some f else get fs m := by
  rw [get_perm (put_perm hs n f) (by
    have := (hs.put n f).nodup
    exact ((put_perm hs n f).map _).nodup_iff.1 this)]
  simp only [get]
  split
  · rfl
  · rename_i e
    cases h : get fs m with
    | none => rw [get_none] at h ⊢; exact fun h' => h ((drop_sub.map _).mem h')
    | some g =>
      refine get_of_mem ((hs.drop n).nodup) ?_
      rw [drop_eq hs.nodup]
      exact List.mem_filter.2 ⟨get_mem h, by simpa using e⟩
theorem get_drop {fs : Fs} (hs : Sd fs) (n m : ByteArray) : get (drop fs n) m = if m = n then none else get fs m := by
  split
  · rename_i e; subst e
    rw [get_none, drop_eq hs.nodup]
    intro h
    obtain ⟨p, hp, e⟩ := List.mem_map.1 h
    have := (List.mem_filter.1 hp).2
    simp at this; exact this e
  · rename_i e
    cases h : get fs m with
    | none => rw [get_none] at h ⊢; exact fun h' => h ((drop_sub.map _).mem h')
    | some g =>
      refine get_of_mem ((hs.drop n).nodup) ?_
      rw [drop_eq hs.nodup]
      exact List.mem_filter.2 ⟨get_mem h, by simpa using e⟩
end Go.Wk.Dsk
