import Derived.Test.YtoecfgldnlglnaaXDskL
set_option linter.unusedVariables false
set_option linter.unusedSimpArgs false
/-! # Disks that count alike: plain -/
namespace Go.Wk.Dsk
open Go Go.Wk

def FEq (f g : File) : Prop := f.recs.length = g.recs.length ∧ f.synced = g.synced ∧ f.cut = g.cut
inductive Fs2 : Fs → Fs → Prop
  | nil : Fs2 [] []
  | cons {n f g a b} : FEq f g → Fs2 a b → Fs2 ((n, f) :: a) ((n, g) :: b)
structure DEq (A B : DM) : Prop where
  off : A.off = B.off
  fuse : A.fuse = B.fuse
  fs : Fs2 A.fs B.fs
theorem FEq.refl (f) : FEq f f := ⟨rfl, rfl, rfl⟩
theorem Fs2.names {a b} (h : Fs2 a b) : a.map (·.1) = b.map (·.1) := by
  induction h with
  | nil => rfl
  | cons _ _ ih => simp only [List.map_cons, ih]
theorem Fs2.get {a b} (h : Fs2 a b) (n) : (Dsk.get a n = .none ∧ Dsk.get b n = .none) ∨ ∃ f g, Dsk.get a n = some f ∧ Dsk.get b n = some g ∧ FEq f g := by
  induction h with
  | nil => exact .inl ⟨rfl, rfl⟩
  | @cons m f g a b hf h ih =>
    by_cases e : n = m
    · subst e; exact .inr ⟨f, g, by simp [Dsk.get], by simp [Dsk.get], hf⟩
    · simp only [Dsk.get, if_neg e]; exact ih
theorem Fs2.put {a b n f g} (hf : FEq f g) (h : Fs2 a b) : Fs2 (put a n f) (put b n g) := by
  induction h with
  | nil => exact .cons hf .nil
  | @cons m f' g' a b hf' h ih =>
    unfold Dsk.put
    split
    · exact .cons hf h
    · split
      · exact .cons hf (.cons hf' h)
      · exact .cons hf' ih
theorem Fs2.drop {a b n} (h : Fs2 a b) : Fs2 (drop a n) (drop b n) := by
  induction h with
  | nil => exact .nil
  | @cons m f' g' a b hf' h ih =>
    unfold Dsk.drop
    split
    · exact h
    · exact .cons hf' ih
theorem keepN_eq {f g keep k} (h : FEq f g) : keepN f keep k = keepN g keep k := by
  unfold keepN; rw [h.1, h.2.1]
theorem FEq.crash {f g keep torn k} (h : FEq f g) : FEq (crashF f keep torn k) (crashF g keep torn k) := by
  obtain ⟨h1, h2, h3⟩ := h
  have h4 := keepN_eq (keep := keep) (k := k) ⟨h1, h2, h3⟩
  refine ⟨?_, ?_, ?_⟩
  · simp only [crashF, List.length_take, h4, h1, h2]
  · simp only [crashF, h4, h2]
  · simp only [crashF, h4, h1, h2, h3]
theorem Fs2.crashes {keep torn a b} (h : Fs2 a b) : ∀ k, Fs2 (crashes keep torn a k) (crashes keep torn b k) := by
  induction h with
  | nil => intro k; exact .nil
  | @cons m f g a b hf h ih =>
    intro k
    unfold Dsk.crashes
    rw [← hf.1, ← hf.2.1]
    split
    · exact .cons hf.crash (ih _)
    · exact .cons hf (ih _)
theorem DEq.burn {A B} (h : DEq A B) : DEq (burn A) (burn B) := by
  unfold Dsk.burn
  rw [← h.fuse]
  split
  · exact ⟨rfl, rfl, h.fs⟩
  · exact h
theorem DEq.file {A B} (h : DEq A B) (n) : FEq (fileOf A n) (fileOf B n) := by
  unfold fileOf
  rcases h.fs.get n with ⟨h1, h2⟩ | ⟨f, g, h1, h2, h3⟩
  · rw [h1, h2]; exact .refl _
  · rw [h1, h2]; exact h3
theorem DEq.append {A B n r s} (h : DEq A B) (hrs : (r = ⟨#[]⟩) = (s = ⟨#[]⟩)) : (append A n r).1 = (append B n s).1 ∧ DEq (append A n r).2 (append B n s).2 := by
  have hf := h.file n
  have hb := h.burn
  unfold Dsk.append
  rw [← h.off, ← hf.2.2, ← hb.off]
  simp only [hrs]
  split
  · exact ⟨rfl, h⟩
  · split
    · exact ⟨rfl, h⟩
    · split
      · exact ⟨rfl, h⟩
      · split
        · exact ⟨rfl, hb⟩
        · exact ⟨rfl, rfl.trans hb.off, hb.fuse, h.fs.put ⟨by simp [hf.1], hf.2.1, hf.2.2⟩⟩
theorem DEq.operates {A B n ga gb} (h : DEq A B) (hg : ∀ f g, FEq f g → Fs2 (ga A.fs f) (gb B.fs g)) : (operates A n ga).1 = (operates B n gb).1 ∧ DEq (operates A n ga).2 (operates B n gb).2 := by
  have hb := h.burn
  unfold Dsk.operates
  rw [← h.off, ← hb.off]
  split
  · exact ⟨rfl, h⟩
  · rcases h.fs.get n with ⟨h1, h2⟩ | ⟨f, g, h1, h2, h3⟩
    · rw [h1, h2]; exact ⟨rfl, h⟩
    · rw [h1, h2]
      simp only
      split
      · exact ⟨rfl, hb⟩
      · exact ⟨rfl, hb.off, hb.fuse, hg f g h3⟩
theorem DEq.crash {A B keep torn} (h : DEq A B) : DEq (crash A keep torn) (crash B keep torn) := ⟨rfl, h.fuse, h.fs.crashes 0⟩
/-- Acts that count alike. -/
structure AEq (x y : AM) : Prop where
  k : x.k = y.k
  a : x.a = y.a
  n : x.n = y.n
  keep : x.keep = y.keep
  torn : x.torn = y.torn
  b : x.k ≠ 0 → x.b = y.b
  e : (x.b = ⟨#[]⟩) = (y.b = ⟨#[]⟩)
theorem DEq.does {A B x y} (h : DEq A B) (hx : AEq x y) (h4 : x.k ≠ 4) : (does A x).2.1 = (does B y).2.1 ∧ DEq (does A x).2.2 (does B y).2.2 := by
  unfold Dsk.does
  rw [← hx.k, ← hx.a, ← hx.n, ← hx.keep, ← hx.torn]
  split
  · exact h.append hx.e
  · rename_i h0
    rw [← hx.b h0]
    split
    · exact h.operates fun f g hf => h.fs.put ⟨hf.1, hf.1, hf.2.2⟩
    · split
      · show (rename A x.a x.b).1 = (rename B x.a x.b).1 ∧ DEq (rename A x.a x.b).2 (rename B x.a x.b).2
        unfold Dsk.rename
        rw [← h.off]
        split
        · exact ⟨rfl, h⟩
        · split
          · exact ⟨rfl, h⟩
          · exact h.operates fun f g hf => h.fs.drop.put hf
      · split
        · exact h.operates fun f g hf => h.fs.drop
        · split
          · exact ⟨rfl, h.off, rfl, h.fs⟩
          · split
            · exact ⟨rfl, h.crash⟩
            · split
              · exact ⟨rfl, rfl, h.fuse, h.fs⟩
              · exact ⟨rfl, h⟩
theorem DEq.records {A B} (h : DEq A B) (n) : Dsk.records A n = Dsk.records B n := by
  have := h.file n
  unfold Dsk.records
  rw [this.1, this.2.1]
theorem DEq.names {A B} (h : DEq A B) : Dsk.names A = Dsk.names B := h.fs.names
theorem DEq.new : DEq new new := ⟨rfl, rfl, .nil⟩
end Go.Wk.Dsk
