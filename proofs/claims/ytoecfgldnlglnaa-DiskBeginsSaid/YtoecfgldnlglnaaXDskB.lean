import Derived.Test.YtoecfgldnlglnaaXDskL
set_option linter.unusedVariables false
set_option linter.unusedSimpArgs false
/-! # What a crash leaves is a beginning: plain -/
namespace Go.Wk.Dsk
open Go Go.Wk

theorem drop_cons' {α : Type} {l : List α} {i : Nat} {x : α} (h : l[i]? = some x) : l = l.take i ++ x :: l.drop (i + 1) := by
  obtain ⟨hi, rfl⟩ := List.getElem?_eq_some_iff.1 h
  rw [← List.drop_eq_getElem_cons hi, List.take_append_drop]
theorem joined_cons (x : ByteArray) (l) : joined (x :: l) = x ++ joined l := by
  apply ByteArray.ext; simp [joined]
theorem joined_one (x : ByteArray) : joined [x] = x := by
  apply ByteArray.ext; simp [joined]
theorem tornN_lt {r : ByteArray} {x : Int} (h : 0 < r.size) : tornN r x < r.size := by
  have h1 : x.tmod r.size < r.size := Int.tmod_lt_of_pos _ (by omega)
  have h2 : -(r.size : Int) < x.tmod r.size := Int.lt_tmod_of_pos _ (by omega)
  unfold tornN
  simp only
  generalize x.tmod r.size = y at *
  split <;> omega
/-- What a crash leaves of a file. -/
structure Left (f f' : File) : Prop where
  pre : ∃ r, bytes f = bytes f' ++ r
  len : f'.recs.length ≤ f.recs.length
  syn : f'.synced = f'.recs.length
  less : f'.recs.length < f.recs.length → (bytes f').size < (bytes f).size
theorem Left.same {K f} (h : FOk K f) (hs : ¬ f.synced < f.recs.length) : Left f f :=
  ⟨⟨⟨#[]⟩, ByteArray.append_empty.symm⟩, Nat.le_refl _, by have := h.syn; omega, fun h => absurd h (Nat.lt_irrefl _)⟩
theorem Left.crash {K f keep torn k} (h : FOk K f) (hs : f.synced < f.recs.length) : Left f (crashF f keep torn k) := by
  have hcut : f.cut = false := by
    cases hc : f.cut with
    | false => rfl
    | true => have := h.cs hc; omega
  have ht := h.ct hcut
  have hk := keepN_le (keep := keep) (k := k) h.syn
  have hb : bytes f = joined f.recs := by unfold bytes; rw [ht]; exact ByteArray.append_empty
  have hlen : (crashF f keep torn k).recs.length = f.synced + keepN f keep k := by rw [← crashF_synced h.syn]; rfl
  cases hr : f.recs[f.synced + keepN f keep k]? with
  | none =>
    have hge : f.recs.length ≤ f.synced + keepN f keep k := List.getElem?_eq_none_iff.1 hr
    have hb' : bytes (crashF f keep torn k) = bytes f := by
      rw [hb]
      simp only [bytes, crashF, hr, ht]
      rw [List.take_of_length_le hge]; exact ByteArray.append_empty
    exact ⟨⟨⟨#[]⟩, by rw [hb']; exact ByteArray.append_empty.symm⟩, by omega, crashF_synced h.syn, fun hl => by omega⟩
  | some r =>
    have hlt : f.synced + keepN f keep k < f.recs.length := (List.getElem?_eq_some_iff.1 hr).1
    have hrs := (h.rcs r (List.mem_of_getElem? hr)).1
    have hsplit := drop_cons' hr
    have hbf : bytes f = joined (f.recs.take (f.synced + keepN f keep k)) ++ (r ++ joined (f.recs.drop (f.synced + keepN f keep k + 1))) := by
      rw [hb]
      conv => lhs; rw [hsplit]
      rw [joined_append, joined_cons]
    obtain ⟨m, hm, hbc⟩ : ∃ m, m < r.size ∧ bytes (crashF f keep torn k) = joined (f.recs.take (f.synced + keepN f keep k)) ++ r.extract 0 m := by
      cases hx : torn[k]? with
      | none =>
        refine ⟨0, hrs, ?_⟩
        simp only [bytes, crashF, hr, hx, ht]
        congr 1
        apply ByteArray.ext; simp
      | some x => exact ⟨tornN r x, tornN_lt hrs, by simp only [bytes, crashF, hr, hx]⟩
    refine ⟨⟨r.extract m r.size ++ joined (f.recs.drop (f.synced + keepN f keep k + 1)), ?_⟩, by omega, crashF_synced h.syn, fun _ => ?_⟩
    · rw [hbf, hbc, ByteArray.append_assoc]
      congr 1
      rw [← ByteArray.append_assoc]
      congr 1
      apply ByteArray.ext
      simp
    · rw [hbf, hbc]
      simp only [ByteArray.size_append, ByteArray.size_extract]
      omega
/-- A record more, at a file that a crash left. -/
theorem app_cut {D n r f} (hoff : D.off = false) (hfu : D.fuse = 0) (hr : right n = true) (hne : r ≠ ⟨#[]⟩) (hg : Dsk.get D.fs n = some f) (hc : f.cut = true) : append D n r = (9, D) := by
  have hf : fileOf D n = f := by simp [fileOf, hg]
  simp [append, hoff, hr, hne, hf, hc]
theorem app_ok {D n r f} (hoff : D.off = false) (hfu : D.fuse = 0) (hr : right n = true) (hne : r ≠ ⟨#[]⟩) (hg : Dsk.get D.fs n = some f) (hc : f.cut = false) : append D n r = (0, { D with fs := put D.fs n { f with recs := f.recs ++ [r] } }) := by
  have hf : fileOf D n = f := by simp [fileOf, hg]
  have hb : burn D = D := by unfold burn; rw [if_neg (by omega)]
  simp [append, hoff, hr, hne, hf, hc, hb]
theorem read_of {D n f} (hoff : D.off = false) (hg : Dsk.get D.fs n = some f) : Dsk.read D n = (bytes f, 0) := by simp [Dsk.read, hoff, hg]
theorem records_of {D n f} (hg : Dsk.get D.fs n = some f) : records D n = (f.recs.length, f.synced) := by simp [records, fileOf, hg]
theorem bytes_app {f r} (ht : f.torn = ⟨#[]⟩) : bytes { f with recs := f.recs ++ [r] } = bytes f ++ r := by
  unfold bytes
  simp only [ht]
  have e : ∀ b : ByteArray, b ++ (⟨#[]⟩ : ByteArray) = b := fun b => ByteArray.append_empty
  rw [e, e, joined_append, joined_one]
end Go.Wk.Dsk
