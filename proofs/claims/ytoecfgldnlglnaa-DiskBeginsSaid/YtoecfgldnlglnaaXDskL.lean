import Derived.Test.YtoecfgldnlglnaaXDh
set_option linter.unusedVariables false
set_option linter.unusedSimpArgs false
/-! # What was synced lasts: plain -/
namespace Go.Wk.Dsk
open Go Go.Wk

/-- A file goes on from another. -/
structure Goes (f0 f : File) : Prop where
  pre : f0.recs <+: f.recs
  syn : f0.recs.length ≤ f.synced
  cut : f0.cut = true → f.recs = f0.recs ∧ f.torn = f0.torn ∧ f.cut = true
def Lives (n : ByteArray) (f0 : File) (D : DM) : Prop := ∃ f, Dsk.get D.fs n = some f ∧ Goes f0 f
theorem Goes.syncs {f0 f} (h : Goes f0 f) : Goes f0 { f with synced := f.recs.length } := ⟨h.pre, h.pre.length_le, h.cut⟩
theorem Goes.app {f0 f r} (h : Goes f0 f) (hc : f.cut = false) : Goes f0 { f with recs := f.recs ++ [r] } :=
  ⟨h.pre.trans (List.prefix_append _ _), h.syn, fun h0 => by have := (h.cut h0).2.2; rw [hc] at this; cases this⟩
theorem Goes.crash {f0 f keep torn k} (h : Goes f0 f) (hs : f.synced < f.recs.length) : Goes f0 (crashF f keep torn k) := by
  refine ⟨?_, ?_, fun h0 => ?_⟩
  · exact List.prefix_take_iff.2 ⟨h.pre, by have := h.syn; omega⟩
  · show f0.recs.length ≤ f.synced + keepN f keep k
    have := h.syn; omega
  · have h1 := (h.cut h0).1
    have h2 := h.syn
    rw [h1] at hs; omega
theorem burn_get (D : DM) (n) : Dsk.get (burn D).fs n = Dsk.get D.fs n := by rw [burn_fs]
theorem get_crashes (keep torn) : ∀ (fs : Fs) (k : Nat) (n) (f), Dsk.get fs n = some f → ∃ f', Dsk.get (crashes keep torn fs k) n = some f' ∧ ((f' = f ∧ ¬ f.synced < f.recs.length) ∨ ∃ k', f' = crashF f keep torn k' ∧ f.synced < f.recs.length)
  | [], k, n, f, h => by cases h
  | (m, g) :: r, k, n, f, h => by
    unfold crashes
    by_cases e : n = m
    · subst e
      simp only [Dsk.get, if_true, Option.some.injEq] at h
      subst h
      split
      · rename_i hl; exact ⟨_, by simp [Dsk.get], .inr ⟨k, rfl, hl⟩⟩
      · rename_i hl; exact ⟨_, by simp [Dsk.get], .inl ⟨rfl, hl⟩⟩
    · simp only [Dsk.get, if_neg e] at h
      split
      · obtain ⟨f', h1, h2⟩ := get_crashes keep torn r (k + 1) n f h
        exact ⟨f', by simp only [Dsk.get, if_neg e]; exact h1, h2⟩
      · obtain ⟨f', h1, h2⟩ := get_crashes keep torn r k n f h
        exact ⟨f', by simp only [Dsk.get, if_neg e]; exact h1, h2⟩
theorem Lives.crash {n f0 D keep torn} (h : Lives n f0 D) : Lives n f0 (crash D keep torn) := by
  obtain ⟨f, h1, h2⟩ := h
  obtain ⟨f', h3, ⟨rfl, _⟩ | ⟨k', rfl, hl⟩⟩ := get_crashes keep torn D.fs 0 n f h1
  · exact ⟨f', h3, h2⟩
  · exact ⟨_, h3, h2.crash hl⟩
theorem Lives.append {n f0 D m r} (hs : Sd D.fs) (h : Lives n f0 D) : Lives n f0 (append D m r).2 := by
  obtain ⟨f, h1, h2⟩ := h
  unfold Dsk.append
  split
  · exact ⟨f, h1, h2⟩
  · split
    · exact ⟨f, h1, h2⟩
    · split
      · exact ⟨f, h1, h2⟩
      · rename_i hc
        split
        · exact ⟨f, by rw [burn_get]; exact h1, h2⟩
        · by_cases e : n = m
          · subst e
            have hf : fileOf D n = f := by simp [fileOf, h1]
            rw [hf] at hc ⊢
            exact ⟨_, by simp only [get_put hs, if_true], h2.app (r := r) (by simpa using hc)⟩
          · exact ⟨f, by simp only [get_put hs, if_neg e]; exact h1, h2⟩
theorem Lives.sync {n f0 D m} (hs : Sd D.fs) (h : Lives n f0 D) : Lives n f0 (sync D m).2 := by
  obtain ⟨f, h1, h2⟩ := h
  unfold Dsk.sync operates
  split
  · exact ⟨f, h1, h2⟩
  · split
    · exact ⟨f, h1, h2⟩
    · rename_i g hg
      split
      · exact ⟨f, by rw [burn_get]; exact h1, h2⟩
      · by_cases e : n = m
        · subst e
          rw [h1] at hg
          cases hg
          exact ⟨_, by simp only [get_put hs, if_true], h2.syncs⟩
        · exact ⟨f, by simp only [get_put hs, if_neg e]; exact h1, h2⟩
theorem Lives.does {n f0 D} {x : AM} (hs : Sd D.fs) (h : Lives n f0 D) (h2 : x.k ≠ 2) (h3 : x.k ≠ 3) : Lives n f0 (does D x).2.2 := by
  unfold Dsk.does
  split
  · exact h.append hs
  · split
    · exact h.sync hs
    · split
      · exact h
      · split
        · exact h
        · split
          · exact h.crash
          · split
            · exact h
            · exact h
/-- The acts but those that delete or rename. -/
def playsN (D : DM) (l : List AM) : DM := l.foldl (fun D x => if x.k ≠ 2 ∧ x.k ≠ 3 then (does D x).2.2 else D) D
/-- After a crash all that is left is synced. -/
theorem crashes_synced (keep torn) : ∀ (fs : Fs) (k : Nat), (∀ q ∈ fs, q.2.synced ≤ q.2.recs.length) → ∀ p ∈ crashes keep torn fs k, p.2.synced = p.2.recs.length
  | [], k, hq, p, hp => by simp [crashes] at hp
  | (n, f) :: r, k, hq, p, hp => by
    have h0 := hq (n, f) (List.mem_cons_self ..)
    have ih := fun k => crashes_synced keep torn r k fun q h => hq q (List.mem_cons_of_mem _ h)
    unfold crashes at hp
    split at hp
    · rcases List.mem_cons.1 hp with rfl | hp
      · exact crashF_synced h0
      · exact ih _ p hp
    · rename_i hl
      rcases List.mem_cons.1 hp with rfl | hp
      · simp only at h0 ⊢; omega
      · exact ih _ p hp
theorem Lives.playsN {n f0} {l : List AM} (hl : ∀ x ∈ l, AOk x) : ∀ {K D}, DOk K D → Lives n f0 D → Lives n f0 (playsN D l) ∧ DOk (K + l.length) (playsN D l) := by
  induction l with
  | nil => intro K D h1 h2; exact ⟨h2, h1⟩
  | cons x l ih =>
    intro K D h1 h2
    have e : K + 1 + l.length = K + (x :: l).length := by simp; omega
    by_cases hk : x.k ≠ 2 ∧ x.k ≠ 3
    · have := ih (fun y hy => hl y (List.mem_cons_of_mem _ hy)) (h1.does (hl x (List.mem_cons_self ..))) (h2.does h1.sd hk.1 hk.2)
      rw [e] at this
      have e2 : Dsk.playsN D (x :: l) = Dsk.playsN (Dsk.does D x).2.2 l := by simp only [Dsk.playsN, List.foldl_cons, if_pos hk]
      rwa [e2]
    · have := ih (fun y hy => hl y (List.mem_cons_of_mem _ hy)) (h1.mono (Nat.le_succ K)) h2
      rw [e] at this
      have e2 : Dsk.playsN D (x :: l) = Dsk.playsN D l := by simp only [Dsk.playsN, List.foldl_cons, if_neg hk]
      rwa [e2]
theorem joined_append (a b : List ByteArray) : joined (a ++ b) = joined a ++ joined b := by
  apply ByteArray.ext
  simp [joined]
theorem Goes.bytes {f0 f} (h : Goes f0 f) (hc : f0.cut = false → f0.torn = ⟨#[]⟩) : ∃ r, bytes f = bytes f0 ++ r := by
  unfold Dsk.bytes
  cases h0 : f0.cut with
  | true =>
    obtain ⟨h1, h2, _⟩ := h.cut h0
    exact ⟨⟨#[]⟩, by rw [h1, h2]; exact ByteArray.append_empty.symm⟩
  | false =>
    obtain ⟨e, he⟩ := h.pre
    have h1 : joined f0.recs ++ f0.torn = joined f0.recs := by rw [hc h0]; exact ByteArray.append_empty
    exact ⟨joined e ++ f.torn, by rw [← he, joined_append, h1, ByteArray.append_assoc]⟩
/-- What the law asks, at the end. -/
theorem lasts {K n f0 D keep torn} (hO : DOk K D) (h : Lives n f0 D) (hc : f0.cut = false → f0.torn = ⟨#[]⟩) :
    ∃ s r, Dsk.read (start (crash D keep torn)) n = (s, 0) ∧ s = bytes f0 ++ r ∧ f0.recs.length ≤ (records (start (crash D keep torn)) n).1 ∧ (records (start (crash D keep torn)) n).2 = (records (start (crash D keep torn)) n).1 := by
  obtain ⟨f, h1, h2⟩ := h.crash (keep := keep) (torn := torn)
  obtain ⟨r, hr⟩ := h2.bytes hc
  have hf : fileOf (start (crash D keep torn)) n = f := by show (Dsk.get (crash D keep torn).fs n).getD _ = f; rw [h1]; rfl
  refine ⟨bytes f, r, ?_, hr, ?_, ?_⟩
  · show (if false = true then _ else _) = _
    rw [if_neg (by decide)]
    show (match Dsk.get (crash D keep torn).fs n with | .none => _ | some f => _) = _
    rw [h1]
  · show _ ≤ (fileOf (start (crash D keep torn)) n).recs.length
    rw [hf]; exact h2.pre.length_le
  · show (fileOf (start (crash D keep torn)) n).synced = (fileOf (start (crash D keep torn)) n).recs.length
    rw [hf]
    exact crashes_synced keep torn D.fs 0 (fun q hq => (hO.file q hq).1.syn) (n, f) (get_mem h1)
end Go.Wk.Dsk
