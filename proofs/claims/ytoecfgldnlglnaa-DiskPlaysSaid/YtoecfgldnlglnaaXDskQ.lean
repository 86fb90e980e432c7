import Derived.Test.YtoecfgldnlglnaaXDskP
set_option linter.unusedVariables false
set_option linter.unusedSimpArgs false
/-! # What holds of a disk, whatever was done to it: plain -/
namespace Go.Wk.Dsk
open Go Go.Wk

structure FOk (K : Nat) (f : File) : Prop where
  syn : f.synced ≤ f.recs.length
  len : f.recs.length ≤ K
  rcs : ∀ r ∈ f.recs, 0 < r.size ∧ r.size ≤ 20000
  torn : f.torn.size ≤ 20000
structure DOk (K : Nat) (D : DM) : Prop where
  sd : Sd D.fs
  len : D.fs.length ≤ K
  file : ∀ p ∈ D.fs, FOk K p.2 ∧ p.1.size ≤ 32
  fuse : 0 ≤ D.fuse ∧ D.fuse ≤ 9223372036854775807
theorem FOk.mono {K K' f} (h : FOk K f) (hk : K ≤ K') : FOk K' f := ⟨h.syn, Nat.le_trans h.len hk, h.rcs, h.torn⟩
theorem DOk.mono {K K' D} (h : DOk K D) (hk : K ≤ K') : DOk K' D := ⟨h.sd, Nat.le_trans h.len hk, fun p hp => ⟨(h.file p hp).1.mono hk, (h.file p hp).2⟩, h.fuse⟩
theorem FOk.none (K) : FOk K File.none := ⟨Nat.le_refl _, Nat.zero_le _, by simp [File.none], by simp [File.none, ByteArray.size]⟩
theorem DOk.fileOf {K D} (h : DOk K D) (n) : FOk K (fileOf D n) := by
  unfold Dsk.fileOf
  cases hg : Dsk.get D.fs n with
  | none => exact FOk.none K
  | some f => exact (h.file _ (get_mem hg)).1
theorem DOk.new (K) : DOk K new := ⟨List.Pairwise.nil, Nat.zero_le _, by simp [Dsk.new], ⟨Int.le_refl _, by show (0:Int) ≤ _; decide⟩⟩
theorem joined_size (l : List ByteArray) (B : Nat) (h : ∀ r ∈ l, r.size ≤ B) : (joined l).size ≤ l.length * B := by
  show (l.flatMap fun r => r.data.toList).toArray.size ≤ _
  rw [List.size_toArray]
  induction l with
  | nil => simp
  | cons x l ih =>
    have h1 : x.data.toList.length ≤ B := h x (List.mem_cons_self ..)
    have h2 := ih fun r hr => h r (List.mem_cons_of_mem _ hr)
    rw [List.flatMap_cons, List.length_append, List.length_cons, Nat.add_mul]
    omega
theorem FOk.bytes {K f} (h : FOk K f) : (bytes f).size ≤ K * 20000 + 20000 := by
  unfold Dsk.bytes
  rw [ByteArray.size_append]
  have h1 := joined_size f.recs 20000 fun r hr => (h.rcs r hr).2
  have h2 := h.torn
  have h3 : f.recs.length * 20000 ≤ K * 20000 := Nat.mul_le_mul_right _ h.len
  omega
theorem put_len {fs n f} : (put fs n f).length ≤ fs.length + 1 := by
  induction fs with
  | nil => simp [put]
  | cons p r ih =>
    obtain ⟨m, g⟩ := p
    unfold put
    split
    · simp
    · split
      · simp
      · simpa using ih
theorem put_len_in {fs : Fs} {n f} (h : n ∈ fs.map (·.1)) (hs : Sd fs) : (put fs n f).length = fs.length := by
  induction fs with
  | nil => simp at h
  | cons p r ih =>
    obtain ⟨m, g⟩ := p
    unfold put
    by_cases e : n = m
    · rw [if_pos e]; simp
    · rw [if_neg e]
      have hr : n ∈ r.map (·.1) := by simpa [e] using h
      have hm : sLt m n = true := by
        obtain ⟨q, hq, rfl⟩ := List.mem_map.1 hr
        exact (List.pairwise_cons.1 hs).1 q hq
      rw [sLt_asymm hm]
      simp only [Bool.false_eq_true, if_false, List.length_cons]
      rw [ih hr (List.pairwise_cons.1 hs).2]
theorem DOk.put {K D n f} (h : DOk K D) (hf : FOk (K + 1) f) (hn : n.size ≤ 32) : DOk (K + 1) { D with fs := Dsk.put D.fs n f } :=
  ⟨h.sd.put n f, Nat.le_trans put_len (Nat.succ_le_succ h.len), fun p hp => by
    rcases put_mem hp with rfl | hp
    · exact ⟨hf, hn⟩
    · exact ⟨(h.file p hp).1.mono (Nat.le_succ K), (h.file p hp).2⟩, h.fuse⟩
theorem DOk.putIn {K D n f} (h : DOk K D) (hf : FOk K f) (hn : n ∈ D.fs.map (·.1)) : DOk K { D with fs := Dsk.put D.fs n f } :=
  ⟨h.sd.put n f, by rw [put_len_in hn h.sd]; exact h.len, fun p hp => by
    rcases put_mem hp with rfl | hp
    · obtain ⟨q, hq, rfl⟩ := List.mem_map.1 hn
      exact ⟨hf, (h.file q hq).2⟩
    · exact h.file p hp, h.fuse⟩
theorem DOk.drop {K D n} (h : DOk K D) : DOk K { D with fs := Dsk.drop D.fs n } :=
  ⟨h.sd.drop n, Nat.le_trans drop_sub.length_le h.len, fun p hp => h.file p (drop_sub.mem hp), h.fuse⟩
theorem DOk.burn {K D} (h : DOk K D) : DOk K (burn D) := by
  unfold Dsk.burn
  have := h.fuse
  split
  · exact ⟨h.sd, h.len, h.file, by simp only; omega⟩
  · exact h
theorem right_size {n} (h : right n = true) : n.size ≤ 32 := by simp [right] at h; exact h.2
theorem DOk.append {K D n r} (h : DOk K D) (hr : r.size ≤ 20000) : DOk (K + 1) (append D n r).2 := by
  have h1 := h.mono (Nat.le_succ K)
  unfold Dsk.append
  split
  · exact h1
  · split
    · exact h1
    · rename_i hn
      split
      · exact h1
      · split
        · exact h1.burn
        · have hf := h.fileOf n
          have hb := burn_fs' D
          have := h.burn.put (n := n) (f := { Dsk.fileOf D n with recs := (Dsk.fileOf D n).recs ++ [r] }) ⟨by have := hf.syn; simp; omega, by have := hf.len; simp; omega, fun x hx => by
            rcases List.mem_append.1 hx with hx | hx
            · exact hf.rcs x hx
            · rw [List.mem_singleton.1 hx]
              refine ⟨?_, hr⟩
              have : r ≠ ⟨#[]⟩ := fun e => hn (.inr e)
              rcases Nat.eq_zero_or_pos r.size with h0 | h0
              · exact absurd (ByteArray.ext (Array.eq_empty_of_size_eq_zero h0)) this
              · exact h0, hf.torn⟩ (right_size (by cases hrt : right n with
              | true => rfl
              | false => exact absurd (.inl hrt) hn))
          rw [hb] at this
          exact this
where burn_fs' (D : DM) : (Dsk.burn D).fs = D.fs := by unfold Dsk.burn; split <;> rfl
theorem operates_ok {K D n go} (h : DOk K D) (hg : ∀ f, Dsk.get D.fs n = some f → FOk K f → DOk K { Dsk.burn D with fs := go D.fs f }) : DOk K (operates D n go).2 := by
  unfold operates
  split
  · exact h
  · split
    · exact h
    · rename_i f hf
      split
      · exact h.burn
      · exact hg f hf (h.file _ (get_mem hf)).1
theorem burn_fs (D : DM) : (Dsk.burn D).fs = D.fs := by unfold Dsk.burn; split <;> rfl
theorem DOk.withFs {K D fs} (h : DOk K { D with fs := fs }) : DOk K { Dsk.burn D with fs := fs } := by
  unfold Dsk.burn
  have := h.fuse
  split
  · exact ⟨h.sd, h.len, h.file, by simp only at this ⊢; omega⟩
  · exact h
theorem get_in {fs : Fs} {n f} (h : Dsk.get fs n = some f) : n ∈ fs.map (·.1) := List.mem_map.2 ⟨_, get_mem h, rfl⟩
theorem DOk.sync {K D n} (h : DOk K D) : DOk K (sync D n).2 :=
  operates_ok h fun f hg hf => DOk.withFs (h.putIn ⟨Nat.le_refl _, hf.len, hf.rcs, hf.torn⟩ (get_in hg))
theorem DOk.delete {K D n} (h : DOk K D) : DOk K (delete D n).2 := operates_ok h fun f _ _ => DOk.withFs h.drop
theorem DOk.rename {K D n t} (h : DOk K D) : DOk (K + 1) (rename D n t).2 := by
  have h1 := h.mono (Nat.le_succ K)
  unfold Dsk.rename
  split
  · exact h1
  · split
    · exact h1
    · rename_i hr
      refine operates_ok h1 fun f _ hf => DOk.withFs ?_
      exact (h.drop (n := n)).put hf (right_size (by simpa using hr))
theorem DOk.fuse' {K D} {n : Int} (h : DOk K D) (hn : n ≤ 9223372036854775807) : DOk K (Dsk.fuse D n) := ⟨h.sd, h.len, h.file, by simp only [Dsk.fuse]; omega⟩
theorem DOk.start {K D} (h : DOk K D) : DOk K (start D) := ⟨h.sd, h.len, h.file, h.fuse⟩
theorem keepN_le {f keep k} (h : f.synced ≤ f.recs.length) : f.synced + keepN f keep k ≤ f.recs.length := by
  unfold keepN
  cases keep[k]? with
  | none => simpa using h
  | some x => simp only; omega
theorem FOk.crash {K f keep tor k} (h : FOk K f) : FOk K (crashF f keep tor k) := by
  have hk := keepN_le (keep := keep) (k := k) h.syn
  refine ⟨?_, ?_, fun r hr => h.rcs r (List.mem_of_mem_take hr), ?_⟩
  · show f.synced + keepN f keep k ≤ (f.recs.take (f.synced + keepN f keep k)).length
    rw [List.length_take]; omega
  · show (f.recs.take (f.synced + keepN f keep k)).length ≤ K
    have := h.len
    rw [List.length_take]; omega
  · simp only [crashF]
    split
    · rename_i r x hr _
      have := (h.rcs r (List.mem_of_getElem? hr)).2
      rw [ByteArray.size_extract]; omega
    · exact h.torn
/-! ### A crash, name by name -/
def crashN (keep torn : List Int) : List ByteArray → Fs → Nat → Fs
  | [], fs, _ => fs
  | n :: ns, fs, k => if ((Dsk.get fs n).getD File.none).synced < ((Dsk.get fs n).getD File.none).recs.length then crashN keep torn ns (put fs n (crashF ((Dsk.get fs n).getD File.none) keep torn k)) (k + 1)
    else crashN keep torn ns (put fs n ((Dsk.get fs n).getD File.none)) k
theorem put_here {pre r : Fs} {n f f'} (h : Sd (pre ++ (n, f) :: r)) : put (pre ++ (n, f) :: r) n f' = pre ++ (n, f') :: r := by
  induction pre with
  | nil => simp [put]
  | cons p pre ih =>
    obtain ⟨m, g⟩ := p
    have h1 : sLt m n = true := (List.pairwise_cons.1 h).1 (n, f) (by simp)
    simp only [List.cons_append, put]
    rw [if_neg (fun e => sLt_ne h1 e.symm), sLt_asymm h1]
    simp only [Bool.false_eq_true, if_false]
    rw [ih (List.pairwise_cons.1 h).2]
theorem get_here {pre r : Fs} {n f} (h : Sd (pre ++ (n, f) :: r)) : Dsk.get (pre ++ (n, f) :: r) n = some f := get_of_mem h.nodup (by simp)
theorem sd_here {pre r : Fs} {n f f'} (h : Sd (pre ++ (n, f) :: r)) : Sd (pre ++ (n, f') :: r) := by
  have := h.put n f'
  rwa [put_here h] at this
theorem crashN_eq (keep torn) : ∀ (fs pre : Fs) (k : Nat), Sd (pre ++ fs) → crashN keep torn (fs.map (·.1)) (pre ++ fs) k = pre ++ crashes keep torn fs k
  | [], pre, k, _ => by simp [crashN, crashes]
  | (n, f) :: r, pre, k, h => by
    have ih := fun f' k' => crashN_eq keep torn r (pre ++ [(n, f')]) k' (by simpa using sd_here h)
    simp only [List.map_cons, crashN, crashes, get_here h, Option.getD_some, put_here h]
    split
    · have := ih (crashF f keep torn k) (k + 1)
      simpa using this
    · have := ih f k
      simpa using this
theorem crashes_names (keep torn) : ∀ (fs : Fs) (k : Nat), (crashes keep torn fs k).map (·.1) = fs.map (·.1)
  | [], k => rfl
  | (n, f) :: r, k => by
    unfold crashes
    split <;> simp [crashes_names keep torn r]
theorem crashes_mem (keep torn) : ∀ (fs : Fs) (k : Nat) p, p ∈ crashes keep torn fs k → ∃ f, (p.1, f) ∈ fs ∧ (p.2 = f ∨ ∃ k', p.2 = crashF f keep torn k' ∧ f.synced < f.recs.length)
  | [], k, p, h => by simp [crashes] at h
  | (n, f) :: r, k, p, h => by
    unfold crashes at h
    split at h
    · rename_i hl
      rcases List.mem_cons.1 h with rfl | h
      · exact ⟨f, by simp, .inr ⟨k, rfl, hl⟩⟩
      · obtain ⟨g, h1, h2⟩ := crashes_mem keep torn r _ p h
        exact ⟨g, by simp [h1], h2⟩
    · rcases List.mem_cons.1 h with rfl | h
      · exact ⟨f, by simp, .inl rfl⟩
      · obtain ⟨g, h1, h2⟩ := crashes_mem keep torn r _ p h
        exact ⟨g, by simp [h1], h2⟩
theorem sd_names {fs gs : Fs} (h : Sd fs) (e : gs.map (·.1) = fs.map (·.1)) : Sd gs := by
  have : (gs.map (·.1)).Pairwise fun a b => sLt a b = true := by rw [e]; exact List.pairwise_map.2 h
  exact List.pairwise_map.1 this
theorem DOk.crash {K D keep torn} (h : DOk K D) : DOk K (crash D keep torn) := by
  refine ⟨sd_names h.sd (crashes_names _ _ _ _), ?_, fun p hp => ?_, h.fuse⟩
  · have := congrArg List.length (crashes_names keep torn D.fs 0)
    simp only [List.length_map] at this
    show (crashes keep torn D.fs 0).length ≤ K
    rw [this]; exact h.len
  · obtain ⟨f, h1, h2⟩ := crashes_mem keep torn D.fs 0 p hp
    have h3 := h.file _ h1
    rcases h2 with h2 | ⟨k, h2, _⟩
    · exact ⟨h2 ▸ h3.1, h3.2⟩
    · exact ⟨h2 ▸ h3.1.crash, h3.2⟩
end Go.Wk.Dsk
