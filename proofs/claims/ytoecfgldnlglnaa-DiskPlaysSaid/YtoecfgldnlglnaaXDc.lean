import Derived.Test.YtoecfgldnlglnaaXDb
set_option linter.unusedVariables false
set_option linter.unusedSimpArgs false
set_option maxRecDepth 20000
namespace Go.Proofs.Ytoecfgldnlglnaa
open Go Go.Wk Go.Wk.Dsk

theorem fileV_inj {s s' f f'} (h : Value.agg (fileV s f).toArray = .agg (fileV s' f').toArray) : s = s' := by
  simp only [fileV, Value.agg.injEq] at h
  have := congrArg Array.toList h
  simp at this
  exact this.1
/-- What an operation does to a file. -/
def GoOk (R : Rd) (d : Nat) (n : ByteArray) (fid : FuncId) (caps : List Value) (go : Fs → File → Fs) : Prop :=
  ∀ R' : Rd, (∀ b o, R b o → R' b o) → ∀ (D' : DM) m kv ck bl fs s f, KvOk kv ck → Fls kv fs bl → fs.Perm D'.fs → Sd D'.fs → getK kv n = some (.agg (fileV s f).toArray) → Dsk.get D'.fs n = some f →
    Tri Try.prog fid (.agg (fileV s f).toArray :: caps) R' ((d, dO (some m) D'.off D'.fuse) :: (m, .map (ents strV kv) ck) :: bl) fun v l' => IsD d { D' with fs := go D'.fs f } l'
theorem dOper {R d D l n fid caps go} (hD : IsD d D l) (hs : Sd D.fs) (hf : D.fuse ≤ 9223372036854775807) (hfb : Fb Try.prog fid) (hg : GoOk R d n fid caps go) :
    Tri Try.prog 60 [.pointer (some ⟨d, 0, none⟩), .string n, .func (.func fid) #[] caps.toArray] R l fun v l' => v = .int .i64 (operates D n go).1 ∧ IsD d (operates D n go).2 l' := by
  have hD' := hD
  obtain ⟨m, kv, ck, bl, fs, rfl, hk, hF, hp⟩ := hD'
  obtain ⟨s, bk, rst, e1, e2, e3, e4, e5, _⟩ := hF.at n
  rw [get_perm hp hs.nodup] at e1 e2 e3
  obtain ⟨p, k, cap, rfl, hlen⟩ := e3.len
  refine enter Try.func60 rfl rfl (by kernel_rfl) rfl fun w0 => ?_
  refine seq ?_
  refine reg ?_
  refine q (asg rfl) ?_
  refine en ?_
  refine seq ?_
  refine seq ?_
  refine reg ?_
  refine q (mv rfl) ?_
  refine cl fb53 rfl (dPower m0) ?_
  rintro v l' ⟨rfl, rfl⟩
  refine q (asg rfl) ?_
  refine en ?_
  refine seq ?_
  refine reg ?_
  refine q (mv rfl) ?_
  refine q (bNeq rfl rfl) ?_
  refine en ?_
  refine ifd rfl (fun h => ?_) (fun h => ?_)
  · refine seq ?_
    refine reg ?_
    refine q (mv rfl) ?_
    refine q (asg rfl) ?_
    refine en ?_
    refine ret (dSr ?_)
    exact fin0 rfl rfl ⟨by cases ho : D.off <;> simp_all [pw, operates], by cases ho : D.off <;> simp_all [pw, operates]⟩
  · have hoff : D.off = false := by cases ho : D.off <;> simp_all [pw]
    refine skp (dSq ?_)
    refine seq ?_
    refine reg ?_
    refine q (mv rfl) ?_
    refine q (nck rfl) ?_
    refine q (fa fo100_0 rfl) ?_
    refine q (ld na98 rfl (by first | exact mR (by assumption) | repeat (first | assumption | exact m0 | apply mS | apply mA)) rfl) ?_
    refine q (mv rfl) ?_
    refine q ((lko Try.underlying98 (KeyT.str Try.underlying9) zr102 rfl rfl m1).to (by rw [e1, e2])) ?_
    refine q (mv rfl) ?_
    refine q (ext rfl rfl) ?_
    refine q (ext rfl rfl) ?_
    refine al zr102 rfl ?_
    intro b1
    refine stA sz102 rfl rfl rfl rfl (by repeat (first | exact .h | apply In.t | apply In.r)) (by repeat constructor) ?_
    refine q (asg rfl) ?_
    refine en ?_
    refine seq ?_
    refine seq ?_
    refine reg ?_
    refine q (mv rfl) ?_
    refine q (by first | exact bNotd rfl | exact bNot rfl) ?_
    refine en ?_
    refine ifb rfl (fun h => ?_) (fun h => ?_)
    · refine seq ?_
      refine reg ?_
      refine q (asg rfl) ?_
      refine en ?_
      refine ret (dSr ?_)
      have hA : operates D n go = (4, D) := by cases hg0 : Dsk.get D.fs n <;> simp_all [operates]
      rw [hA]
      exact finQ ((d, dO (some m) D.off D.fuse) :: (m, .map (ents strV kv) ck) :: bl) rfl rfl (fun a => by simp only [cnt_append, cnt_cons, cnt_nil]; omega) ⟨rfl, hD⟩
    · refine skp (dSq ?_)
      refine seq ?_
      refine seq ?_
      refine reg ?_
      refine q (mv rfl) ?_
      rw [hoff]
      refine cl fb56 rfl ((dBurnsD hoff hf (.t .h))) ?_
      rintro v l' ⟨rfl, rfl⟩
      refine q (asg rfl) ?_
      refine en ?_
      refine seq ?_
      refine reg ?_
      refine q (mv rfl) ?_
      refine q (bNeq rfl rfl) ?_
      refine en ?_
      obtain ⟨f, hgf⟩ : ∃ f, Dsk.get D.fs n = some f := by cases hg0 : Dsk.get D.fs n <;> simp_all
      have hB := burn_fs D
      refine ifd rfl (fun h => ?_) (fun h => ?_)
      · have hpw : (burn D).off = true := by simpa [pw] using h
        refine seq ?_
        refine reg ?_
        refine q (mv rfl) ?_
        refine q (asg rfl) ?_
        refine en ?_
        refine ret (dSr ?_)
        have hA : operates D n go = (7, burn D) := by simp [operates, hoff, hgf, hpw]
        rw [hA]
        exact finQ ((d, dO (some m) (burn D).off (burn D).fuse) :: (m, .map (ents strV kv) ck) :: bl) rfl rfl (fun a => by simp only [cnt_append, cnt_cons, cnt_nil]; omega) ⟨by rw [hpw]; rfl, m, kv, ck, bl, fs, rfl, hk, hF, by rw [hB]; exact hp⟩
      · have hpw : (burn D).off = false := by simpa [pw] using h
        have hA : operates D n go = (0, { burn D with fs := go D.fs f }) := by simp [operates, hoff, hgf, hpw]
        rw [hA]
        refine skp (dSq ?_)
        refine seq ?_
        refine reg ?_
        refine q (mv rfl) ?_
        refine q (ldA ag102 rfl (by first | exact mR (by assumption) | repeat (first | assumption | exact m0 | apply mS | apply mA)) (by repeat constructor)) ?_
        have e6 : getK kv n = some (.agg (fileV (.slice p k cap) f).toArray) := by
          rw [hgf] at e1 e2
          cases hgk : getK kv n with
          | none => rw [hgk] at e2; cases e2
          | some x => rw [hgk] at e1; exact congrArg some e1
        simp only [hgf, Option.getD_some]
        refine clQG (fst := #[]) (cap := caps.toArray) rfl rfl hfb rfl ((d, dO (some m) (burn D).off (burn D).fuse) :: (m, .map (ents strV kv) ck) :: bl) [(b1, .cells (List.toArray [.slice p k cap, .int .i64 f.synced, .bool f.cut, .string f.torn]) 102 (0, 0))] (fun a => by simp only [cnt_append, cnt_cons, cnt_nil]; omega) (hg _ (fun b o h => .inl h) (burn D) m kv ck bl fs (.slice p k cap) f hk hF (hB ▸ hp) (hB ▸ hs) e6 (hB ▸ hgf)) ?_
        intro v l' hS
        refine en ?_
        refine seq ?_
        refine reg ?_
        refine q (asg rfl) ?_
        refine en ?_
        refine ret ?_
        exact finQ l' rfl rfl (fun a => by simp only [cnt_append]; omega) ⟨rfl, by rw [hB] at hS; exact hS⟩

/-- Boxes that a closure holds. -/
abbrev bxD (d : Nat) : Obj := .cells (List.toArray [.pointer (some ⟨d, 0, none⟩)]) 29 (0, 0)
abbrev bxS (n : ByteArray) : Obj := .cells (List.toArray [.string n]) 9 (0, 0)
theorem fls_get {kv fs bl n s f} (hF : Fls kv fs bl) (h : getK kv n = some (.agg (fileV s f).toArray)) (hg : Dsk.get fs n = some f) : ∃ bk rest, SlI 9 1 s (f.recs.map .string) bk ∧ bl.Perm (bk ++ rest) ∧
    (∀ s' f' bk' t, SlI 9 1 s' (f'.recs.map .string) bk' → ∃ bl', Fls (setK kv n (.agg (fileV s' f').toArray) t) (setF fs n f') bl' ∧ bl'.Perm (bk' ++ rest)) ∧
    ∃ bl', Fls (delK kv n) (drop fs n) bl' ∧ bl'.Perm rest := by
  obtain ⟨s', bk, rst, e1, e2, e3, e4, e5, e6⟩ := hF.at n
  rw [h, hg] at e1
  obtain rfl := fileV_inj e1
  rw [hg] at e3
  exact ⟨bk, rst, e3, e4, e5, e6⟩
theorem goSync {R d n bd bn} (h1 : R bd (bxD d)) (h2 : R bn (bxS n)) : GoOk R d n 61 [.pointer (some ⟨bd, 0, none⟩), .pointer (some ⟨bn, 0, none⟩)] (fun fs f => put fs n { f with synced := f.recs.length }) := by
  intro R' hR D' m kv ck bl fs s f hk hF hp hs hgk hgf
  obtain ⟨bk, rst, e3, e4, e5, _⟩ := fls_get hF hgk (by rw [get_perm hp hs.nodup]; exact hgf)
  obtain ⟨p, k, cap, rfl, hlen⟩ := e3.len
  simp only [List.length_map, Nat.mul_one] at hlen
  subst hlen
  have h1' := hR _ _ h1
  have h2' := hR _ _ h2
  unfold fileV
  refine enter Try.func61 rfl rfl (by kernel_rfl) rfl fun w0 => ?_
  refine seq ?_
  refine reg ?_
  refine bx rfl rfl ?_
  intro b1
  refine en ?_
  refine seq ?_
  refine reg ?_
  refine q (fa fo102_0 rfl) ?_
  refine q (ld na33 rfl (by first | exact mR (by assumption) | repeat (first | assumption | exact m0 | apply mS | apply mA)) rfl) ?_
  refine q (lnL Try.underlying33 rfl) ?_
  refine q (fa fo102_1 rfl) ?_
  refine st sz3 rfl rfl rfl (by repeat (first | exact .h | apply In.t | apply In.r)) (by repeat constructor) ?_
  refine en ?_
  refine drw (by kernel_rfl) [(.q, 0), (.q, 1), (.q, 2), (.q, 3), (.q, 4), (.q, 5), (.s, 6)] _ rfl (by kernel_rfl) (by kernel_rfl) trivial ?_
  refine xq rfl (ld na29 rfl (by first | exact mR (by assumption) | repeat (first | assumption | exact m0 | apply mS | apply mA)) rfl) ?_
  refine xq rfl (nck rfl) ?_
  refine xq rfl (fa fo100_0 rfl) ?_
  refine xq rfl (ld na98 rfl (by first | exact mR (by assumption) | repeat (first | assumption | exact m0 | apply mS | apply mA)) rfl) ?_
  refine xq rfl (ld na9 rfl (by first | exact mR (by assumption) | repeat (first | assumption | exact m0 | apply mS | apply mA)) rfl) ?_
  refine xq rfl (ldA ag102 rfl (by first | exact mR (by assumption) | repeat (first | assumption | exact m0 | apply mS | apply mA)) (by repeat constructor)) ?_
  refine xs rfl (eUp Try.underlying98 (KeyT.str Try.underlying9) rfl rfl rfl (.t (.t .h))) ?_
  rintro _ _ rfl
  skip
  obtain ⟨bl', f1, f2⟩ := e5 _ { f with synced := f.recs.length } _ ck e3
  exact finQN ((d, dO (some m) D'.off D'.fuse) :: (m, .map (ents strV (setK kv n (.agg (fileV (.slice p f.recs.length cap) { f with synced := f.recs.length }).toArray) ck)) (ckK kv n ck)) :: bl') rfl
    (fun a => by have := e4.cnt a; have := f2.cnt a; simp only [cnt_append, cnt_cons, cnt_nil, fileV] at *; omega) ⟨m, _, _, bl', _, rfl, hk.set _ _, f1, put_setF hp hs _ _⟩
theorem goDelete {R d n bd bn} (h1 : R bd (bxD d)) (h2 : R bn (bxS n)) : GoOk R d n 100 [.pointer (some ⟨bd, 0, none⟩), .pointer (some ⟨bn, 0, none⟩)] (fun fs _ => drop fs n) := by
  intro R' hR D' m kv ck bl fs s f hk hF hp hs hgk hgf
  obtain ⟨bk, rst, e3, e4, _, bl', f1, f2⟩ := fls_get hF hgk (by rw [get_perm hp hs.nodup]; exact hgf)
  have h1' := hR _ _ h1
  have h2' := hR _ _ h2
  refine enter Try.func100 rfl rfl (by kernel_rfl) rfl fun w0 => ?_
  refine seq ?_
  refine reg ?_
  refine bx rfl rfl ?_
  intro b1
  refine en ?_
  refine drw (by kernel_rfl) [(.q, 0), (.q, 1), (.q, 2), (.q, 3), (.q, 4), (.s, 5)] _ rfl (by kernel_rfl) (by kernel_rfl) trivial ?_
  refine xq rfl (ld na29 rfl (by first | exact mR (by assumption) | repeat (first | assumption | exact m0 | apply mS | apply mA)) rfl) ?_
  refine xq rfl (nck rfl) ?_
  refine xq rfl (fa fo100_0 rfl) ?_
  refine xq rfl (ld na98 rfl (by first | exact mR (by assumption) | repeat (first | assumption | exact m0 | apply mS | apply mA)) rfl) ?_
  refine xq rfl (ld na9 rfl (by first | exact mR (by assumption) | repeat (first | assumption | exact m0 | apply mS | apply mA)) rfl) ?_
  refine xs rfl (eDl Try.underlying98 (KeyT.str Try.underlying9) rfl rfl (.t (.t .h))) ?_
  rintro _ _ rfl
  skip
  exact finQN ((d, dO (some m) D'.off D'.fuse) :: (m, .map (ents strV (delK kv n)) ck) :: bl') rfl
    (fun a => by have := e4.cnt a; have := f2.cnt a; simp only [cnt_append, cnt_cons, cnt_nil, fileV] at *; omega) ⟨m, _, _, bl', _, rfl, hk.del _, f1, drop_perm hp hs.nodup _⟩
theorem goRename {R d n t bd bn bt} (h1 : R bd (bxD d)) (h2 : R bn (bxS n)) (h3 : R bt (bxS t)) : GoOk R d n 99 [.pointer (some ⟨bd, 0, none⟩), .pointer (some ⟨bn, 0, none⟩), .pointer (some ⟨bt, 0, none⟩)] (fun fs f => put (drop fs n) t f) := by
  intro R' hR D' m kv ck bl fs s f hk hF hp hs hgk hgf
  obtain ⟨bk, rst, e3, e4, _, bl', f1, f2⟩ := fls_get hF hgk (by rw [get_perm hp hs.nodup]; exact hgf)
  obtain ⟨p, k, cap, rfl, hlen⟩ := e3.len
  obtain ⟨_, bk2, rst2, _, _, _, e7, e8, _⟩ := f1.at t
  have h1' := hR _ _ h1
  have h2' := hR _ _ h2
  have h3' := hR _ _ h3
  unfold fileV
  refine enter Try.func99 rfl rfl (by kernel_rfl) rfl fun w0 => ?_
  refine seq ?_
  refine reg ?_
  refine bx rfl rfl ?_
  intro b1
  refine en ?_
  refine seq ?_
  refine drw (by kernel_rfl) [(.q, 0), (.q, 1), (.q, 2), (.q, 3), (.q, 4), (.s, 5)] _ rfl (by kernel_rfl) (by kernel_rfl) trivial ?_
  refine xq rfl (ld na29 rfl (by first | exact mR (by assumption) | repeat (first | assumption | exact m0 | apply mS | apply mA)) rfl) ?_
  refine xq rfl (nck rfl) ?_
  refine xq rfl (fa fo100_0 rfl) ?_
  refine xq rfl (ld na98 rfl (by first | exact mR (by assumption) | repeat (first | assumption | exact m0 | apply mS | apply mA)) rfl) ?_
  refine xq rfl (ld na9 rfl (by first | exact mR (by assumption) | repeat (first | assumption | exact m0 | apply mS | apply mA)) rfl) ?_
  refine xs rfl (eDl Try.underlying98 (KeyT.str Try.underlying9) rfl rfl (.t (.t .h))) ?_
  rintro _ _ rfl
  refine dSq ?_
  refine drw (by kernel_rfl) [(.q, 0), (.q, 1), (.q, 2), (.q, 3), (.q, 4), (.q, 5), (.s, 6)] _ rfl (by kernel_rfl) (by kernel_rfl) trivial ?_
  refine xq rfl (ld na29 rfl (by first | exact mR (by assumption) | repeat (first | assumption | exact m0 | apply mS | apply mA)) rfl) ?_
  refine xq rfl (nck rfl) ?_
  refine xq rfl (fa fo100_0 rfl) ?_
  refine xq rfl (ld na98 rfl (by first | exact mR (by assumption) | repeat (first | assumption | exact m0 | apply mS | apply mA)) rfl) ?_
  refine xq rfl (ld na9 rfl (by first | exact mR (by assumption) | repeat (first | assumption | exact m0 | apply mS | apply mA)) rfl) ?_
  refine xq rfl (ldA ag102 rfl (by first | exact mR (by assumption) | repeat (first | assumption | exact m0 | apply mS | apply mA)) (by repeat constructor)) ?_
  refine xs rfl (eUp Try.underlying98 (KeyT.str Try.underlying9) rfl rfl rfl (.t (.t .h))) ?_
  rintro _ _ rfl
  skip
  obtain ⟨bl3, f3, f4⟩ := e8 _ f _ ck e3
  exact finQN ((d, dO (some m) D'.off D'.fuse) :: (m, .map (ents strV (setK (delK kv n) t (.agg (fileV (.slice p k cap) f).toArray) ck)) (ckK (delK kv n) t ck)) :: bl3) rfl
    (fun a => by have := e4.cnt a; have := f2.cnt a; have := e7.cnt a; have := f4.cnt a; simp only [cnt_append, cnt_cons, cnt_nil, fileV] at *; omega) ⟨m, _, _, bl3, _, rfl, (hk.del _).set _ _, f3, put_setF (drop_perm hp hs.nodup _) (hs.drop _) _ _⟩

theorem dSync {R d D l n} (hD : IsD d D l) (hs : Sd D.fs) (hf : D.fuse ≤ 9223372036854775807) :
    Tri Try.prog 28 [.pointer (some ⟨d, 0, none⟩), .string n] R l fun v l' => v = .int .i64 (sync D n).1 ∧ IsD d (sync D n).2 l' := by
  refine enter Try.func28 rfl rfl (by kernel_rfl) rfl fun w0 => ?_
  refine seq ?_
  refine reg ?_
  refine bx rfl rfl ?_
  intro b1
  refine bx rfl rfl ?_
  intro b2
  refine q (asg rfl) ?_
  refine en ?_
  refine seq ?_
  refine reg ?_
  refine q (ld na29 rfl (by first | exact mR (by assumption) | repeat (first | assumption | exact m0 | apply mS | apply mA)) rfl) ?_
  refine q (ld na9 rfl (by first | exact mR (by assumption) | repeat (first | assumption | exact m0 | apply mS | apply mA)) rfl) ?_
  refine q (mkF rfl rfl (fun w => rfl)) ?_
  refine clQ fb60 rfl l [(b2, bxS n), (b1, bxD d)] (fun a => by simp only [cnt_append, cnt_cons, cnt_nil, bxD, bxS]; omega) (dOper hD hs hf fb61 (goSync (bd := b1) (bn := b2) (.inr (by simp)) (.inr (by simp)))) ?_
  rintro v l' ⟨rfl, hS⟩
  refine q (asg rfl) ?_
  refine en ?_
  refine ret ?_
  exact finQ l' rfl rfl (fun a => by simp only [cnt_append]; omega) ⟨rfl, hS⟩
theorem dDelete {R d D l n} (hD : IsD d D l) (hs : Sd D.fs) (hf : D.fuse ≤ 9223372036854775807) :
    Tri Try.prog 59 [.pointer (some ⟨d, 0, none⟩), .string n] R l fun v l' => v = .int .i64 (Dsk.delete D n).1 ∧ IsD d (Dsk.delete D n).2 l' := by
  refine enter Try.func59 rfl rfl (by kernel_rfl) rfl fun w0 => ?_
  refine seq ?_
  refine reg ?_
  refine bx rfl rfl ?_
  intro b1
  refine bx rfl rfl ?_
  intro b2
  refine q (asg rfl) ?_
  refine en ?_
  refine seq ?_
  refine reg ?_
  refine q (ld na29 rfl (by first | exact mR (by assumption) | repeat (first | assumption | exact m0 | apply mS | apply mA)) rfl) ?_
  refine q (ld na9 rfl (by first | exact mR (by assumption) | repeat (first | assumption | exact m0 | apply mS | apply mA)) rfl) ?_
  refine q (mkF rfl rfl (fun w => rfl)) ?_
  refine clQ fb60 rfl l [(b2, bxS n), (b1, bxD d)] (fun a => by simp only [cnt_append, cnt_cons, cnt_nil, bxD, bxS]; omega) (dOper hD hs hf fb100 (goDelete (bd := b1) (bn := b2) (.inr (by simp)) (.inr (by simp)))) ?_
  rintro v l' ⟨rfl, hS⟩
  refine q (asg rfl) ?_
  refine en ?_
  refine ret ?_
  exact finQ l' rfl rfl (fun a => by simp only [cnt_append]; omega) ⟨rfl, hS⟩
theorem dRename {R d D l n t} (hD : IsD d D l) (hs : Sd D.fs) (hf : D.fuse ≤ 9223372036854775807) (ht : t.size ≤ 1000000000000) :
    Tri Try.prog 58 [.pointer (some ⟨d, 0, none⟩), .string n, .string t] R l fun v l' => v = .int .i64 (rename D n t).1 ∧ IsD d (rename D n t).2 l' := by
  have hD' := hD
  obtain ⟨m, kv, ck, bl, fs, rfl, hk, hF, hp⟩ := hD'
  refine enter Try.func58 rfl rfl (by kernel_rfl) rfl fun w0 => ?_
  refine seq ?_
  refine reg ?_
  refine bx rfl rfl ?_
  intro b1
  refine bx rfl rfl ?_
  intro b2
  refine bx rfl rfl ?_
  intro b3
  refine q (asg rfl) ?_
  refine en ?_
  refine seq ?_
  refine seq ?_
  refine reg ?_
  refine q (ld na29 rfl (by first | exact mR (by assumption) | repeat (first | assumption | exact m0 | apply mS | apply mA)) rfl) ?_
  refine cl fb53 rfl (dPower (mS (mS (mS m0)))) ?_
  rintro v l' ⟨rfl, rfl⟩
  refine q (asg rfl) ?_
  refine en ?_
  refine seq ?_
  refine reg ?_
  refine q (mv rfl) ?_
  refine q (bNeq rfl rfl) ?_
  refine en ?_
  refine ifd rfl (fun h => ?_) (fun h => ?_)
  · refine seq ?_
    refine reg ?_
    refine q (mv rfl) ?_
    refine q (asg rfl) ?_
    refine en ?_
    refine ret (dSr ?_)
    exact finQ ((d, dO (some m) D.off D.fuse) :: (m, .map (ents strV kv) ck) :: bl) rfl rfl (fun a => by simp only [cnt_append, cnt_cons, cnt_nil]; omega) ⟨by cases ho : D.off <;> simp_all [pw, rename], by cases ho : D.off <;> simp_all [pw, rename]⟩
  · have hoff : D.off = false := by cases ho : D.off <;> simp_all [pw]
    refine skp (dSq ?_)
    refine seq ?_
    refine seq ?_
    refine reg ?_
    refine q (ld na9 rfl (by first | exact mR (by assumption) | repeat (first | assumption | exact m0 | apply mS | apply mA)) rfl) ?_
    refine cl fb55 rfl (dRight' t ht) ?_
    rintro v l' ⟨rfl, rfl⟩
    refine q (by first | exact bNotd rfl | exact bNot rfl) ?_
    refine en ?_
    refine ifb rfl (fun h => ?_) (fun h => ?_)
    · have hr : right t = false := by simpa [right, Decidable.imp_iff_not_or] using h
      have hA : rename D n t = (1, D) := by simp [rename, hoff, hr]
      refine seq ?_
      refine reg ?_
      refine q (asg rfl) ?_
      refine en ?_
      refine ret (dSr ?_)
      rw [hA]
      exact finQ ((d, dO (some m) D.off D.fuse) :: (m, .map (ents strV kv) ck) :: bl) rfl rfl (fun a => by simp only [cnt_append, cnt_cons, cnt_nil]; omega) ⟨rfl, hD⟩
    · have hr : right t = true := by simpa [right] using h
      have hA : rename D n t = operates D n fun fs f => put (drop fs n) t f := by simp [rename, hoff, hr]
      rw [hA]
      refine skp (dSq ?_)
      refine seq ?_
      refine reg ?_
      refine q (ld na29 rfl (by first | exact mR (by assumption) | repeat (first | assumption | exact m0 | apply mS | apply mA)) rfl) ?_
      refine q (ld na9 rfl (by first | exact mR (by assumption) | repeat (first | assumption | exact m0 | apply mS | apply mA)) rfl) ?_
      refine q (mkF rfl rfl (fun w => rfl)) ?_
      refine clQ fb60 rfl ((d, dO (some m) D.off D.fuse) :: (m, .map (ents strV kv) ck) :: bl) [(b3, bxS t), (b2, bxS n), (b1, bxD d)] (fun a => by simp only [cnt_append, cnt_cons, cnt_nil, bxD, bxS]; omega) (dOper hD hs hf fb99 (goRename (n := n) (t := t) (bd := b1) (bn := b2) (bt := b3) (.inr (by simp)) (.inr (by simp)) (.inr (by simp)))) ?_
      rintro v l' ⟨rfl, hS⟩
      refine q (asg rfl) ?_
      refine en ?_
      refine ret ?_
      exact finQ l' rfl rfl (fun a => by simp only [cnt_append]; omega) ⟨rfl, hS⟩
end Go.Proofs.Ytoecfgldnlglnaa

