import Derived.Test.YtoecfgldnlglnaaXDf
set_option linter.unusedVariables false
set_option linter.unusedSimpArgs false
set_option linter.unusedSectionVars false
set_option maxRecDepth 20000
namespace Go.Wk
open Go
section
variable {c : Cx} {e : Env} {l : Bl} {x : Operand} {ty : TypeId} {d : Option Tmp} {pos : String} {aft : Array Edge} {g : Option (Nat × Bool)} {α : Type} [DecidableEq α] {kf : α → Value} {kv : Kv α} {t m : Nat}
theorem find_born {kv : Kv α} (h : (kv.map (·.2.2)).Nodup) {p : α × Value × Nat} (hp : p ∈ kv) : (kv.map fun p => (⟨kf p.1, p.2.1, p.2.2⟩ : MapEntry)).find? (fun e => e.born == p.2.2) = some ⟨kf p.1, p.2.1, p.2.2⟩ := by
  induction kv with
  | nil => cases hp
  | cons q r ih =>
    simp only [List.map_cons, List.nodup_cons] at h
    rcases List.mem_cons.1 hp with rfl | hp'
    · simp
    · have hne : q.2.2 ≠ p.2.2 := fun e => h.1 (by rw [e]; exact List.mem_map.2 ⟨p, hp', rfl⟩)
      rw [List.map_cons, List.find?_cons_of_neg (by simpa using hne)]
      exact ih h.2 hp'
/-- The pair that an iterator over a map stands at. -/
theorem ent {it since : Nat} {seen : Array Nat} {p : α × Value × Nat} (hk : KvOk kv t) (hp : p ∈ kv) (hx : ev e x = some (.pointer (some ⟨it, 0, none⟩))) (hm : Has c.R l m (.map (ents kf kv) t)) (hi : Has c.R l it (.mapIter (some m) since (seen.push p.2.2) t)) :
    Sp c l ⟨d, .entry x, ty, pos, aft, g⟩ e (.tuple #[kf p.1, p.2.1]) := fun w hv a ha => by
  have h1 := hv.get hm
  have h2 := hv.get hi
  have h3 : (ents kf kv).find? (fun e => e.born == p.2.2) = some ⟨kf p.1, p.2.1, p.2.2⟩ := by
    unfold ents
    rw [List.find?_toArray]
    exact find_born hk.born hp
  have h4 : (Instr.entry (.pointer (some ⟨it, 0, none⟩))).run c.P w = .ok (.tuple #[kf p.1, p.2.1]) w := by
    unfold Instr.entry
    simp only [Sem.run_bind, getObj, Sem.run, h2, h1, Result.andThen_ok, Array.back?_push, bne_self_eq_false, Bool.false_eq_true, if_false, h3, pure]
  unfold execOp
  simp only [ha.eval hx, Sem.run_bind, h4, Result.andThen_ok, pure, Sem.run]
end
theorem countP_lt {α : Type} {P Q : α → Bool} {l : List α} (hsub : ∀ x ∈ l, Q x = true → P x = true) {p : α} (hp : p ∈ l) (h1 : P p = true) (h2 : Q p = false) : l.countP Q < l.countP P := by
  induction l with
  | nil => cases hp
  | cons y r ih =>
    have hle : r.countP Q ≤ r.countP P := List.countP_mono_left fun x hx h => hsub x (List.mem_cons_of_mem _ hx) h
    rw [List.countP_cons, List.countP_cons]
    rcases List.mem_cons.1 hp with rfl | hp'
    · simp [h1, h2]; omega
    · have := ih (fun x hx => hsub x (List.mem_cons_of_mem _ hx)) hp'
      by_cases hq : Q y = true
      · have := hsub y (List.mem_cons_self ..) hq; simp [hq, this]; omega
      · simp [hq]; omega
end Go.Wk
namespace Go.Proofs.Ytoecfgldnlglnaa
open Go Go.Wk Go.Wk.Dsk

theorem _root_.Go.Wk.In.cnt {l b o o' l'} (h : In l b o o' l') (a : Nat × Obj) : cnt a l' + isB (b, o) a = cnt a l + isB (b, o') a := by
  obtain ⟨A, B, rfl, rfl⟩ := h.eq
  simp only [cnt_append, cnt_cons]; omega
theorem fin_seen {kv : Kv ByteArray} {seen : Array Nat} {p : ByteArray × Value × Nat} (hp : p ∈ kv) (hn : p.2.2 ∉ seen) : (kv.countP fun q => decide (q.2.2 ∉ seen.push p.2.2)) < kv.countP fun q => decide (q.2.2 ∉ seen) :=
  countP_lt (fun x _ h => by simp only [decide_eq_true_eq, Array.mem_push, not_or] at h ⊢; exact h.1) hp (by simpa using hn) (by simp)
theorem born_inj {kv : Kv ByteArray} (h : (kv.map (·.2.2)).Nodup) {p q : ByteArray × Value × Nat} (hp : p ∈ kv) (hq : q ∈ kv) (e : p.2.2 = q.2.2) : p = q := by
  induction kv with
  | nil => cases hp
  | cons x r ih =>
    simp only [List.map_cons, List.nodup_cons] at h
    rcases List.mem_cons.1 hp with rfl | hp' <;> rcases List.mem_cons.1 hq with rfl | hq'
    · rfl
    · exact absurd (by rw [e]; exact List.mem_map.2 ⟨q, hq', rfl⟩) h.1
    · exact absurd (by rw [← e]; exact List.mem_map.2 ⟨p, hp', rfl⟩) h.1
    · exact ih h.2 hp' hq'
theorem Fls.mem {kv fs bl} (h : Fls kv fs bl) {p} (hp : p ∈ kv) : ∃ s f bk, p.2.1 = .agg (fileV s f).toArray ∧ (p.1, f) ∈ fs ∧ SlI 9 1 s (f.recs.map .string) bk ∧ ∀ x ∈ bk, x ∈ bl := by
  induction h with
  | nil => cases hp
  | @cons s n f t bk kv fs bl hs hf ih =>
    rcases List.mem_cons.1 hp with rfl | hp
    · exact ⟨s, f, bk, rfl, by simp, hs, fun x hx => List.mem_append_left _ hx⟩
    · obtain ⟨s', f', bk', h1, h2, h3, h4⟩ := ih hp
      exact ⟨s', f', bk', h1, by simp [h2], h3, fun x hx => List.mem_append_right _ (h4 x hx)⟩
theorem get_setF {fs : Fs} {n m f} : Dsk.get (setF fs n f) m = if m = n then some f else Dsk.get fs m := by
  induction fs with
  | nil => simp only [setF, Dsk.get]
  | cons p r ih =>
    obtain ⟨a, g⟩ := p
    unfold setF
    by_cases e : n = a
    · subst e
      rw [if_pos rfl]
      simp only [Dsk.get]
      by_cases h : m = n <;> simp [h]
    · rw [if_neg e]
      simp only [Dsk.get, ih]
      by_cases h : m = a
      · subst h; simp [Ne.symm e]
      · simp [h]
theorem nodup_setF {fs : Fs} {n f} (h : (fs.map (·.1)).Nodup) : ((setF fs n f).map (·.1)).Nodup := by
  have h1 := (setF_perm h n f).map (·.1)
  rw [h1.nodup_iff, drop_eq h]
  simp only [List.map_cons, List.nodup_cons]
  refine ⟨fun hm => ?_, h.sublist (List.filter_sublist.map _)⟩
  obtain ⟨q, hq, rfl⟩ := List.mem_map.1 hm
  simpa using (List.mem_filter.1 hq).2
theorem perm_get {a b : Fs} (ha : (a.map (·.1)).Nodup) (hb : (b.map (·.1)).Nodup) (h : ∀ n, Dsk.get a n = Dsk.get b n) : a.Perm b := by
  have hn : ∀ {l : Fs}, (l.map (·.1)).Nodup → l.Nodup := fun h => List.Pairwise.imp (fun h e => h (congrArg _ e)) (List.pairwise_map.1 h)
  refine (List.perm_ext_iff_of_nodup (hn ha) (hn hb)).2 fun p => ⟨fun hp => ?_, fun hp => ?_⟩
  · have := get_of_mem ha (n := p.1) (f := p.2) hp
    rw [h] at this; exact get_mem this
  · have := get_of_mem hb (n := p.1) (f := p.2) hp
    rw [← h] at this; exact get_mem this
/-- Where a twin stands. -/
structure TwI (D : DM) (K : Nat) (d m tb mt it : Nat) (kv : Kv ByteArray) (ck : Nat) (bl : Bl) (m' : Nat) (e : Env) (l : Bl) (seen : Array Nat) (tkv : Kv ByteArray) (tck : Nat) (tbl : Bl) (tfs : Fs) (fs : Fs) : Prop where
  hm : m' = kv.countP fun p => decide (p.2.2 ∉ seen)
  he : e = [(3, .pointer (some ⟨tb, 0, none⟩)), (23, .pointer (some ⟨it, 0, none⟩))]
  hl : l = (tb, dO (some mt) D.off D.fuse) :: (mt, .map (ents strV tkv) tck) :: tbl ++ ((it, .mapIter (some m) ck seen ck) :: (d, dO (some m) D.off D.fuse) :: (m, .map (ents strV kv) ck) :: bl)
  kvo : KvOk tkv tck
  fl : Fls tkv tfs tbl
  nd : (tfs.map (·.1)).Nodup
  gt : ∀ n, Dsk.get tfs n = if ∃ p ∈ kv, p.1 = n ∧ p.2.2 ∈ seen then Dsk.get fs n else none
theorem dTwin {R l d D K} (hD : IsD d D l) (hO : DOk K D) (hK : K ≤ 1000) :
    Tri Try.prog 19 [.pointer (some ⟨d, 0, none⟩)] R l fun v l' => ∃ t lt, v = .pointer (some ⟨t, 0, none⟩) ∧ IsD t D lt ∧ l' = lt ++ l := by
  obtain ⟨m, kv, ck, bl, fs, rfl, hkv, hF, hp⟩ := hD
  refine enter Try.func19 rfl rfl (by kernel_rfl) rfl fun w0 => ?_
  refine seq ?_
  refine reg ?_
  refine q (asg rfl) ?_
  refine en ?_
  refine seq ?_
  refine seq ?_
  refine reg ?_
  refine q (mv rfl) ?_
  refine cl fb48 rfl (dNone m0) ?_
  rintro v l' ⟨rfl, rfl⟩
  refine en ?_
  refine ifF rfl ?_
  refine skp (dSq ?_)
  refine seq ?_
  refine drw (by kernel_rfl) [(.q, 1), (.q, 2), (.q, 3), (.q, 4), (.q, 5), (.q, 6), (.q, 7), (.q, 8), (.b, 0), (.q, 9), (.b, 10), (.q, 11)] _ rfl (by kernel_rfl) (by kernel_rfl) trivial ?_
  refine xq rfl (mv rfl) ?_
  refine xq rfl (nck rfl) ?_
  refine xq rfl (fa fo100_1 rfl) ?_
  refine xq rfl (ld na4 rfl (by first | exact mR (by assumption) | repeat (first | assumption | exact m0 | apply mS | apply mA)) (by first | rfl | assumption)) ?_
  refine xq rfl (mv rfl) ?_
  refine xq rfl (nck rfl) ?_
  refine xq rfl (fa fo100_2 rfl) ?_
  refine xq rfl (ld na3 rfl (by first | exact mR (by assumption) | repeat (first | assumption | exact m0 | apply mS | apply mA)) (by first | rfl | assumption)) ?_
  refine xb rfl (eMk) extA ?_
  rintro _ _ ⟨b1, rfl, rfl⟩
  refine xq rfl (bd pl100 rfl (.c1 rfl (by first | decide | simp) rfl (by repeat constructor) (.c1 rfl (by first | decide | simp) rfl (by repeat constructor) (.c1 rfl (by first | decide | simp) rfl (by repeat constructor) .n)))) ?_
  refine xb rfl (eBx rfl rfl) extA ?_
  rintro _ _ ⟨b2, rfl, rfl⟩
  refine xq rfl (asg rfl) ?_
  refine dSq ?_
  refine seq ?_
  refine seq ?_
  refine reg ?_
  refine q (mv rfl) ?_
  refine q (nck rfl) ?_
  refine q (fa fo100_0 rfl) ?_
  refine q (ld na98 rfl (by first | exact mR (by assumption) | repeat (first | assumption | exact m0 | apply mS | apply mA)) (by first | rfl | assumption)) ?_
  refine eo (eRg Try.underlying98 rfl (by repeat first | exact m0 | apply mS)) ?_
  rintro _ _ ⟨bi, rfl, rfl⟩
  refine en ?_
  refine blk ?_
  refine cSub (e' := [(3, .pointer (some ⟨b2, 0, none⟩)), (23, .pointer (some ⟨bi, 0, none⟩))]) (by repeat first | exact Sub.nil | refine Sub.cons rfl ?_) ?_
  refine cPerm (l' := (b2, dO (some b1) D.off D.fuse) :: (b1, .map (ents strV []) 0) :: [] ++ ((bi, .mapIter (some m) ck #[] ck) :: (d, dO (some m) D.off D.fuse) :: (m, .map (ents strV kv) ck) :: bl)) (permC fun a => by simp only [cnt_append, cnt_cons, cnt_nil, dO, ents, List.map_nil]; omega) ?_
  refine loop (fun m' e l => ∃ seen tkv tck tbl tfs, TwI D K d m b2 b1 bi kv ck bl m' e l seen tkv tck tbl tfs fs) _ ⟨#[], [], 0, [], [], rfl, rfl, rfl, KvOk.nil, .nil, List.nodup_nil, fun n => by simp [Dsk.get]⟩ ?_
  rintro m' _ _ ⟨seen, tkv, tck, tbl, tfs, rfl, rfl, rfl, htk, htF, htn, htg⟩
  refine seq ?_
  refine reg ?_
  refine eo (eNx hkv rfl (mS (mS (mA (mS m1)))) (List.mem_append_right _ (List.mem_cons_self ..))) ?_
  intro v l' hN
  rcases hN with ⟨rfl, rfl, hall⟩ | ⟨⟨n, v0, bn⟩, hpk, hns, rfl, hin⟩
  · refine q (ext rfl rfl) ?_
    refine en ?_
    refine seq ?_
    refine ifF rfl ?_
    refine exi (dSe (dLe (dBe (dSq ?_))))
    refine seq ?_
    refine reg ?_
    refine q (mv rfl) ?_
    refine q (asg rfl) ?_
    refine en ?_
    refine ret ?_
    have hperm : tfs.Perm D.fs := by
      refine (perm_get htn ((hp.map (·.1)).nodup_iff.2 hO.sd.nodup) fun n => ?_).trans hp
      rw [htg n]
      split
      · rfl
      · rename_i hno
        refine (get_none.2 fun hm => hno ?_).symm
        rw [← hF.names] at hm
        obtain ⟨q, hq, rfl⟩ := List.mem_map.1 hm
        exact ⟨q, hq, rfl, hall q hq⟩
    exact finQ (((b2, dO (some b1) D.off D.fuse) :: (b1, .map (ents strV tkv) tck) :: tbl) ++ ((d, dO (some m) D.off D.fuse) :: (m, .map (ents strV kv) ck) :: bl)) rfl rfl (fun a => by simp only [cnt_append, cnt_cons, cnt_nil]; omega) ⟨b2, _, rfl, ⟨b1, tkv, tck, tbl, tfs, rfl, htk, htF, hperm⟩, rfl⟩
  · obtain ⟨s, f, bk, hv, hmem, hsl, hbk⟩ := hF.mem hpk
    simp only at hv hmem hns hin
    subst hv
    obtain ⟨p, k, cap, rfl, hlen⟩ := hsl.len
    refine oPerm (l' := (b2, dO (some b1) D.off D.fuse) :: (b1, .map (ents strV tkv) tck) :: tbl ++ ((bi, .mapIter (some m) ck (seen.push bn) ck) :: (d, dO (some m) D.off D.fuse) :: (m, .map (ents strV kv) ck) :: bl)) (permC fun a => by have := hin.cnt a; simp only [cnt_append, cnt_cons, cnt_nil] at *; omega) ?_
    refine q (ext rfl rfl) ?_
    refine en ?_
    refine seq ?_
    refine ifT rfl ?_
    refine skp (dSq ?_)
    refine blk ?_
    refine seq ?_
    refine reg ?_
    refine q (ent hkv hpk rfl (mS (mS (mA (mS m1)))) (mS (mS (mA m0)))) ?_
    refine q (ext rfl rfl) ?_
    refine q (ext rfl rfl) ?_
    refine al zr102 rfl ?_
    intro b3
    refine q (asg rfl) ?_
    refine stA sz102 rfl rfl rfl rfl (by repeat (first | exact .h | apply In.t | apply In.r)) (by repeat constructor) ?_
    refine en ?_
    refine seq ?_
    refine reg ?_
    refine q (fa fo102_0 rfl) ?_
    refine q (ld na33 rfl (by first | exact mR (by assumption) | repeat (first | assumption | exact m0 | apply mS | apply mA)) (by first | rfl | assumption)) ?_
    have hfo : FOk K f := (hO.file _ (hp.mem_iff.1 hmem)).1
    refine cl fb49 rfl ((dClone hsl (fun x hx => mS (mS (mS (mA (mS (mS (mS (.inr (hbk x hx))))))))) (by have := hfo.len; omega))) ?_
    rintro v _ ⟨bkc, hcl, rfl⟩
    obtain ⟨pc, nc, capc, rfl, _⟩ := hcl.toI.len
    refine q (fa fo102_0 rfl) ?_
    refine st sz33 rfl rfl rfl (by repeat (first | exact .h | apply In.t | apply In.r)) (by repeat constructor) ?_
    refine en ?_
    refine drw (by kernel_rfl) [(.q, 0), (.q, 1), (.q, 2), (.q, 3), (.q, 4), (.q, 5), (.s, 6)] _ rfl (by kernel_rfl) (by kernel_rfl) trivial ?_
    refine xq rfl (mv rfl) ?_
    refine xq rfl (nck rfl) ?_
    refine xq rfl (fa fo100_0 rfl) ?_
    refine xq rfl (ld na98 rfl (by first | exact mR (by assumption) | repeat (first | assumption | exact m0 | apply mS | apply mA)) (by first | rfl | assumption)) ?_
    refine xq rfl (mv rfl) ?_
    refine xq rfl (ldA ag102 rfl (by first | exact mR (by assumption) | repeat (first | assumption | exact m0 | apply mS | apply mA)) (by first | assumption | repeat constructor)) ?_
    refine xs rfl (eUp Try.underlying98 (KeyT.str Try.underlying9) rfl rfl rfl (.r (.t (.t .h)))) ?_
    rintro _ _ rfl
    refine dBn ?_
    obtain ⟨_, bk1, rst, _, _, _, e4, e5, _⟩ := htF.at n
    obtain ⟨bl', f1, f2⟩ := e5 (.slice pc nc capc) f bkc tck hcl.toI
    refine dSub ((b2, dO (some b1) D.off D.fuse) :: (b1, .map (ents strV (setK tkv n (.agg (fileV (.slice pc nc capc) f).toArray) tck)) (ckK tkv n tck)) :: bl' ++ ((bi, .mapIter (some m) ck (seen.push bn) ck) :: (d, dO (some m) D.off D.fuse) :: (m, .map (ents strV kv) ck) :: bl)) (fun a => by have := e4.cnt a; have := f2.cnt a; simp only [cnt_append, cnt_cons, cnt_nil, fileV, dO, List.append_eq] at *; omega) ?_
    refine dLp (m' := _) (e' := [(3, .pointer (some ⟨b2, 0, none⟩)), (23, .pointer (some ⟨bi, 0, none⟩))]) (fin_seen hpk hns) (by repeat first | exact Sub.nil | refine Sub.cons rfl ?_) ?_
    refine ⟨seen.push bn, _, _, bl', setF tfs n f, rfl, rfl, rfl, htk.set _ _, f1, nodup_setF htn, fun n' => ?_⟩
    have hgn : Dsk.get fs n = some f := get_of_mem ((hp.map (·.1)).nodup_iff.2 hO.sd.nodup) hmem
    rw [get_setF, htg n']
    by_cases h : n' = n
    · subst h
      rw [if_pos rfl, if_pos ⟨_, hpk, rfl, by simp⟩, hgn]
    · rw [if_neg h]
      have : (∃ p ∈ kv, p.1 = n' ∧ p.2.2 ∈ seen.push bn) ↔ ∃ p ∈ kv, p.1 = n' ∧ p.2.2 ∈ seen := by
        constructor
        · rintro ⟨q, h1, h2, h3⟩
          rcases Array.mem_push.1 h3 with h3 | h3
          · exact ⟨q, h1, h2, h3⟩
          · exact absurd (by rw [← h2, born_inj hkv.born h1 hpk h3]) h
        · rintro ⟨q, h1, h2, h3⟩
          exact ⟨q, h1, h2, by simp [h3]⟩
      simp only [this]
end Go.Proofs.Ytoecfgldnlglnaa

