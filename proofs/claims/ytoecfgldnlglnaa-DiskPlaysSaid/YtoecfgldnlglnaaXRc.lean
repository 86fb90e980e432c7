import Derived.Test.YtoecfgldnlglnaaXRb
set_option linter.unusedVariables false
set_option linter.unusedSimpArgs false
set_option maxRecDepth 20000
namespace Go.Proofs.Ytoecfgldnlglnaa
open Go Go.Wk Go.Wk.Dsk

theorem fnd_put {fs : Fs} {n : ByteArray} {i : Nat} {f f' : File} (h : fs[i]? = some (n, f)) (hs : Sd fs) : fs.set i (n, f') = put fs n f' := by
  have hi := (List.getElem?_eq_some_iff.1 h).1
  have e : fs = fs.take i ++ (n, f) :: fs.drop (i + 1) := by
    rw [← drop_cons h, List.take_append_drop]
  have hl : (fs.take i).length = i := by simp; omega
  have h1 := put_here (pre := fs.take i) (n := n) (f := f) (f' := f') (r := fs.drop (i + 1)) (e ▸ hs)
  rw [← e] at h1
  rw [h1, List.set_eq_take_append_cons_drop, if_pos hi]
theorem fnd_I {fs : Fs} {n : ByteArray} : (∃ (i : Nat) (f : File), fndI fs n = (i : Int) ∧ fs[i]? = some (n, f) ∧ Dsk.get fs n = some f) ∨ (fndI fs n = -1 ∧ Dsk.get fs n = none) := by
  have := fnd_get (fs := fs) (n := n)
  unfold fndI
  cases h : fnd fs n with
  | none => rw [h] at this; exact .inr ⟨rfl, this⟩
  | some i => rw [h] at this; obtain ⟨f, h1, h2⟩ := this; exact .inl ⟨i, f, rfl, h1, h2⟩
theorem rdO {w v bkf bl} {D : DM} {R : Rd} {l : Bl} (hF : OSl 115 5 RepF (Fz bl) v D.fs bkf) (h : ∀ x ∈ (w, wO v D.off D.fuse) :: (bkf ++ bl), Has R l x.1 x.2) : RdW (fun b o => Has R l b o) w D :=
  IsW.rd ⟨v, bkf, bl, rfl, hF⟩ h
theorem rSync {R l w D n K} (hD : IsW w D l) (hO : DOk K D) (hK : K ≤ 1000000) : Tri Try.prog 63 [.pointer (some ⟨w, 0, none⟩), .string n] R l fun v l' => v = .int .i64 (Dsk.sync D n).1 ∧ IsW w (Dsk.sync D n).2 l' := by
  obtain ⟨v, bkf, bl, rfl, hF⟩ := hD
  obtain ⟨p, cap, rfl⟩ := hF.val kF
  have hlen := hO.len
  have hrd := rdO (w := w) (R := R) (l := (w, wO (.slice p D.fs.length cap) D.off D.fuse) :: (bkf ++ bl)) hF (fun x hx => .inr hx)
  refine enter Try.func63 rfl rfl (by kernel_rfl) rfl fun w0 => ?_
  refine seq ?_
  refine reg ?_
  refine q (asg rfl) ?_
  refine en ?_
  refine seq ?_
  refine seq ?_
  refine reg ?_
  refine q (mv rfl) ?_
  refine q (nck rfl) ?_
  refine q (fa fo53_1 rfl) ?_
  refine q (ld na4 rfl (by first | exact mR (by assumption) | repeat (first | assumption | exact m0 | apply mS | apply mA)) (by first | rfl | assumption)) ?_
  refine en ?_
  refine ifb rfl (fun hoff => ?_) (fun hoff => ?_)
  · refine seq ?_
    refine reg ?_
    refine q (asg rfl) ?_
    refine en ?_
    refine ret (dSr ?_)
    have e : Dsk.sync D n = (7, D) := by simp [Dsk.sync, operates, hoff]
    rw [e]
    exact finQ _ rfl rfl (fun a => Nat.le_refl _) ⟨rfl, IsW.mk hF (by simp [hoff]) rfl⟩
  · refine skp (dSq ?_)
    refine seq ?_
    refine reg ?_
    refine q (mv rfl) ?_
    refine q (mv rfl) ?_
    refine cl0v fb102 rfl (rFind hrd (by omega)) ?_
    refine q (asg rfl) ?_
    refine en ?_
    refine seq ?_
    refine seq ?_
    refine reg ?_
    refine q (mv rfl) ?_
    refine q (bLss rfl rfl) ?_
    refine en ?_
    rcases fnd_I (fs := D.fs) (n := n) with ⟨i, f, e1, e2, e3⟩ | ⟨e1, e3⟩
    · rw [e1]
      refine ifd rfl (fun h => ?_) (fun h => ?_)
      · omega
      · refine skp (dSq ?_)
        refine seq ?_
        refine seq ?_
        refine reg ?_
        refine q (mv rfl) ?_
        refine cl fb103 rfl (rGoes (v := .slice p D.fs.length cap) (rest := bkf ++ bl) hoff hO.fuse) ?_
        rintro _ _ ⟨rfl, rfl⟩
        refine q (by first | exact bNotd rfl | exact bNot rfl) ?_
        refine en ?_
        refine ifb rfl (fun hb => ?_) (fun hb => ?_)
        · refine seq ?_
          refine reg ?_
          refine q (asg rfl) ?_
          refine en ?_
          refine ret (dSr ?_)
          have hb' : (burn D).off = true := by simpa using hb
          have e : Dsk.sync D n = (7, burn D) := by simp [Dsk.sync, operates, hoff, e3, hb']
          rw [e]
          exact finQ _ rfl rfl (fun a => Nat.le_refl _) ⟨rfl, IsW.mk (by rw [burn_fs]; exact hF) rfl rfl⟩
        · have hb' : (burn D).off = false := by simpa using hb
          obtain ⟨b, cs, vs, rfl, _, rfl, ⟨sg, rfl, hsg⟩, hj, hT, hset, _⟩ := hF.at kF e2
          obtain ⟨pg, mg, capg, rfl, hlg⟩ := hsg.len
          simp only [List.length_map, Nat.mul_one] at hlg
          subst hlg
          have hj1 : cs[0 + (i : Int).toNat * 5 + 1]? = some (.slice pg f.recs.length capg) := hj 1 (by decide)
          have hin := (List.getElem?_eq_some_iff.1 e2).1
          obtain ⟨hu, hF2⟩ := hset 2 (.int .i64 f.recs.length) (n, { f with synced := f.recs.length }) (by decide) ⟨_, rfl, hsg⟩
          refine skp (dSq ?_)
          refine seq ?_
          refine drw (by kernel_rfl) [(.q, 0), (.q, 1), (.q, 2), (.q, 3), (.q, 4), (.q, 5), (.q, 6), (.q, 7), (.q, 8), (.q, 9), (.q, 10), (.q, 11), (.q, 12), (.q, 13), (.q, 14), (.q, 15), (.s, 16)] _ rfl (by kernel_rfl) (by kernel_rfl) trivial ?_
          refine xq rfl (mv rfl) ?_
          refine xq rfl (nck rfl) ?_
          refine xq rfl (fa fo53_0 rfl) ?_
          refine xq rfl (ld na51 rfl (by first | exact mR (by assumption) | repeat (first | assumption | exact m0 | apply mS | apply mA)) (by first | rfl | assumption)) ?_
          refine xq rfl (mv rfl) ?_
          refine xq rfl (mv rfl) ?_
          refine xq rfl (nck rfl) ?_
          refine xq rfl (fa fo53_0 rfl) ?_
          refine xq rfl (ld na51 rfl (by first | exact mR (by assumption) | repeat (first | assumption | exact m0 | apply mS | apply mA)) (by first | rfl | assumption)) ?_
          refine xq rfl (mv rfl) ?_
          refine xq rfl (ia Try.underlying51 sz115 rfl rfl (by omega) (by omega)) ?_
          refine xq rfl (fa fo115_1 rfl) ?_
          refine xq rfl (ld na33 rfl (by first | exact mR (by assumption) | repeat (first | assumption | exact m0 | apply mS | apply mA)) (by first | rfl | assumption)) ?_
          refine xq rfl (lnL Try.underlying33 rfl) ?_
          refine xq rfl (ia Try.underlying51 sz115 rfl rfl (by omega) (by omega)) ?_
          refine xq rfl (fa fo115_2 rfl) ?_
          refine xs rfl (eSt sz3 rfl rfl rfl (by repeat (first | exact .h | apply In.t | apply In.r)) (by first | assumption | repeat constructor)) ?_
          rintro _ _ rfl
          refine dSq ?_
          refine seq ?_
          refine reg ?_
          refine q (asg rfl) ?_
          refine en ?_
          refine ret ?_
          rw [fnd_put e2 hO.sd] at hF2
          have e : Dsk.sync D n = (0, { burn D with fs := put D.fs n { f with synced := f.recs.length } }) := by simp [Dsk.sync, operates, hoff, e3, hb']
          rw [e]
          have hW := IsW.mk (w := w) (D := { burn D with fs := put D.fs n { f with synced := f.recs.length } }) hF2 rfl rfl
          exact finQ _ rfl rfl (fun a => Nat.le_refl _) ⟨rfl, hW⟩
    · rw [e1]
      refine ifd rfl (fun h => ?_) (fun h => ?_)
      · refine seq ?_
        refine reg ?_
        refine q (asg rfl) ?_
        refine en ?_
        refine ret (dSr ?_)
        have e : Dsk.sync D n = (4, D) := by simp [Dsk.sync, operates, hoff, e3]
        rw [e]
        exact finQ _ rfl rfl (fun a => Nat.le_refl _) ⟨rfl, IsW.mk hF (by simp [hoff]) rfl⟩
      · omega
theorem rDelete {R l w D n K} (hD : IsW w D l) (hO : DOk K D) (hK : K ≤ 1000000) : Tri Try.prog 65 [.pointer (some ⟨w, 0, none⟩), .string n] R l fun v l' => v = .int .i64 (Dsk.delete D n).1 ∧ IsW w (Dsk.delete D n).2 l' := by
  obtain ⟨v, bkf, bl, rfl, hF⟩ := hD
  obtain ⟨p, cap, rfl⟩ := hF.val kF
  have hlen := hO.len
  have hrd := rdO (w := w) (R := R) (l := (w, wO (.slice p D.fs.length cap) D.off D.fuse) :: (bkf ++ bl)) hF (fun x hx => .inr hx)
  refine enter Try.func65 rfl rfl (by kernel_rfl) rfl fun w0 => ?_
  refine seq ?_
  refine reg ?_
  refine q (asg rfl) ?_
  refine en ?_
  refine seq ?_
  refine seq ?_
  refine reg ?_
  refine q (mv rfl) ?_
  refine q (nck rfl) ?_
  refine q (fa fo53_1 rfl) ?_
  refine q (ld na4 rfl (by first | exact mR (by assumption) | repeat (first | assumption | exact m0 | apply mS | apply mA)) (by first | rfl | assumption)) ?_
  refine en ?_
  refine ifb rfl (fun hoff => ?_) (fun hoff => ?_)
  · refine seq ?_
    refine reg ?_
    refine q (asg rfl) ?_
    refine en ?_
    refine ret (dSr ?_)
    have e : Dsk.delete D n = (7, D) := by simp [Dsk.delete, operates, hoff]
    rw [e]
    exact finQ _ rfl rfl (fun a => Nat.le_refl _) ⟨rfl, IsW.mk hF (by simp [hoff]) rfl⟩
  · refine skp (dSq ?_)
    refine seq ?_
    refine seq ?_
    refine reg ?_
    refine q (mv rfl) ?_
    refine q (mv rfl) ?_
    refine cl0v fb102 rfl (rFind hrd (by omega)) ?_
    refine q (bLss rfl rfl) ?_
    refine en ?_
    rcases fnd_I (fs := D.fs) (n := n) with ⟨i, f, e1, e2, e3⟩ | ⟨e1, e3⟩
    · rw [e1]
      refine ifd rfl (fun h => ?_) (fun h => ?_)
      · omega
      · refine skp (dSq ?_)
        refine seq ?_
        refine seq ?_
        refine reg ?_
        refine q (mv rfl) ?_
        refine cl fb103 rfl (rGoes (v := .slice p D.fs.length cap) (rest := bkf ++ bl) hoff hO.fuse) ?_
        rintro _ _ ⟨rfl, rfl⟩
        refine q (by first | exact bNotd rfl | exact bNot rfl) ?_
        refine en ?_
        refine ifb rfl (fun hb => ?_) (fun hb => ?_)
        · refine seq ?_
          refine reg ?_
          refine q (asg rfl) ?_
          refine en ?_
          refine ret (dSr ?_)
          have hb' : (burn D).off = true := by simpa using hb
          have e : Dsk.delete D n = (7, burn D) := by simp [Dsk.delete, operates, hoff, e3, hb']
          rw [e]
          exact finQ _ rfl rfl (fun a => Nat.le_refl _) ⟨rfl, IsW.mk (by rw [burn_fs]; exact hF) rfl rfl⟩
        · have hb' : (burn D).off = false := by simpa using hb
          have hW : IsW w (burn D) ((w, wO (.slice p D.fs.length cap) (burn D).off (burn D).fuse) :: (bkf ++ bl)) := IsW.mk (by rw [burn_fs]; exact hF) rfl rfl
          refine skp (dSq ?_)
          refine seq ?_
          refine reg ?_
          refine q (mv rfl) ?_
          refine q (mv rfl) ?_
          refine cl fb105 rfl (rDrop (n := n) hW (by rw [burn_fs]; exact hO.sd) (by rw [burn_fs]; omega)) ?_
          rintro _ l2 ⟨rfl, hD2⟩
          refine en ?_
          refine seq ?_
          refine reg ?_
          refine q (asg rfl) ?_
          refine en ?_
          refine ret ?_
          have e : Dsk.delete D n = (0, { burn D with fs := Dsk.drop (burn D).fs n }) := by simp [Dsk.delete, operates, hoff, e3, hb', burn_fs]
          rw [e]
          exact finQ _ rfl rfl (fun a => Nat.le_refl _) ⟨rfl, hD2⟩
    · rw [e1]
      refine ifd rfl (fun h => ?_) (fun h => ?_)
      · refine seq ?_
        refine reg ?_
        refine q (asg rfl) ?_
        refine en ?_
        refine ret (dSr ?_)
        have e : Dsk.delete D n = (4, D) := by simp [Dsk.delete, operates, hoff, e3]
        rw [e]
        exact finQ _ rfl rfl (fun a => Nat.le_refl _) ⟨rfl, IsW.mk hF (by simp [hoff]) rfl⟩
      · omega
theorem rRead {R w D n K} (hrd : RdW R w D) (hO : DOk K D) (hK : K ≤ 1000) : Tri Try.prog 66 [.pointer (some ⟨w, 0, none⟩), .string n] R [] fun v l' => v = .tuple (List.toArray [.string (Dsk.read D n).1, .int .i64 (Dsk.read D n).2]) ∧ l' = [] := by
  have hlen := hO.len
  obtain ⟨p, cap, hR, hV⟩ := id hrd
  refine enter Try.func66 rfl rfl (by kernel_rfl) rfl fun w0 => ?_
  refine seq ?_
  refine reg ?_
  refine q (asg rfl) ?_
  refine q (asg rfl) ?_
  refine en ?_
  refine seq ?_
  refine seq ?_
  refine reg ?_
  refine q (mv rfl) ?_
  refine q (nck rfl) ?_
  refine q (fa fo53_1 rfl) ?_
  refine q (ld na4 rfl (by first | exact mR (by assumption) | repeat (first | assumption | exact m0 | apply mS | apply mA)) (by first | rfl | assumption)) ?_
  refine en ?_
  refine ifb rfl (fun hoff => ?_) (fun hoff => ?_)
  · refine seq ?_
    refine reg ?_
    refine q (asg rfl) ?_
    refine q (asg rfl) ?_
    refine en ?_
    refine ret (dSr ?_)
    have e : Dsk.read D n = (⟨#[]⟩, 7) := by simp [Dsk.read, hoff]
    rw [e]
    exact finQT _ rfl rfl rfl (fun a => Nat.le_refl _) ⟨rfl, rfl⟩
  · refine skp (dSq ?_)
    refine seq ?_
    refine reg ?_
    refine q (mv rfl) ?_
    refine q (mv rfl) ?_
    refine cl0v fb102 rfl (rFind (hrd.mono fun b o h => .inl h) (by omega)) ?_
    refine q (asg rfl) ?_
    refine en ?_
    refine seq ?_
    refine seq ?_
    refine reg ?_
    refine q (mv rfl) ?_
    refine q (bLss rfl rfl) ?_
    refine en ?_
    rcases fnd_I (fs := D.fs) (n := n) with ⟨i, f, e1, e2, e3⟩ | ⟨e1, e3⟩
    · rw [e1]
      refine ifd rfl (fun h => ?_) (fun h => ?_)
      · omega
      · obtain ⟨b, o, cs, E, fz, vs, rfl, hil, hRb, ⟨s, rfl, hs⟩, hj, hT⟩ := hV.at kF e2
        have hff := (hO.file _ (get_mem e3)).1
        have hsz := hff.bytes
        have hrl := hff.len
        have hkk : K * 20000 ≤ 1000 * 20000 := Nat.mul_le_mul_right _ hK
        refine skp (dSq ?_)
        refine seq ?_
        refine reg ?_
        refine q (mv rfl) ?_
        refine q (nck rfl) ?_
        refine q (fa fo53_0 rfl) ?_
        refine q (ld na51 rfl (by first | exact mR (by assumption) | repeat (first | assumption | exact m0 | apply mS | apply mA)) (by first | rfl | assumption)) ?_
        refine q (mv rfl) ?_
        refine q (ia Try.underlying51 sz115 rfl rfl (by omega) (by omega)) ?_
        refine q (ldA ag115 rfl (by first | exact mR (by assumption) | repeat (first | assumption | exact m0 | apply mS | apply mA)) (by first | assumption | repeat constructor)) ?_
        refine cl0v fb69 rfl (rBytes (n := n) (hs.1.mono fun b o h => .inl h) (by omega) (by omega)) ?_
        refine q (asg rfl) ?_
        refine q (asg rfl) ?_
        refine en ?_
        refine ret ?_
        have e : Dsk.read D n = (Dsk.bytes f, 0) := by simp [Dsk.read, hoff, e3]
        rw [e]
        exact finQT _ rfl rfl rfl (fun a => Nat.le_refl _) ⟨rfl, rfl⟩
    · rw [e1]
      refine ifd rfl (fun h => ?_) (fun h => ?_)
      · refine seq ?_
        refine reg ?_
        refine q (asg rfl) ?_
        refine q (asg rfl) ?_
        refine en ?_
        refine ret (dSr ?_)
        have e : Dsk.read D n = (⟨#[]⟩, 4) := by simp [Dsk.read, hoff, e3]
        rw [e]
        exact finQT _ rfl rfl rfl (fun a => Nat.le_refl _) ⟨rfl, rfl⟩
      · omega
theorem rFuse {R w v rest} {D : DM} {n : Int} : Tri Try.prog 67 [.pointer (some ⟨w, 0, none⟩), .int .i64 n] R ((w, wO v D.off D.fuse) :: rest) fun u l' => u = .tuple #[] ∧ l' = (w, wO v D.off (max n 0)) :: rest := by
  refine enter Try.func67 rfl rfl (by kernel_rfl) rfl fun w0 => ?_
  refine seq ?_
  refine reg ?_
  refine q (mv rfl) ?_
  refine q (mv rfl) ?_
  refine q (nck rfl) ?_
  refine q (fa fo53_2 rfl) ?_
  refine st sz3 rfl rfl rfl (by repeat (first | exact .h | apply In.t | apply In.r)) (by first | assumption | repeat constructor) ?_
  refine en ?_
  refine seq ?_
  refine reg ?_
  refine q (mv rfl) ?_
  refine q (bLss rfl rfl) ?_
  refine en ?_
  refine ifd rfl (fun h => ?_) (fun h => ?_)
  · refine reg ?_
    refine q (mv rfl) ?_
    refine q (nck rfl) ?_
    refine q (fa fo53_2 rfl) ?_
    refine st sz3 rfl rfl rfl (by repeat (first | exact .h | apply In.t | apply In.r)) (by first | assumption | repeat constructor) ?_
    refine enD ?_
    rw [show max n 0 = 0 by omega]
    exact finQN _ rfl (fun a => Nat.le_refl _) ⟨rfl, rfl⟩
  · refine skp ?_
    rw [show max n 0 = n by omega]
    exact finQN _ rfl (fun a => Nat.le_refl _) ⟨rfl, rfl⟩
end Go.Proofs.Ytoecfgldnlglnaa

