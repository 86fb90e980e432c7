import Derived.Test.YtoecfgldnlglnaaXRc
set_option linter.unusedVariables false
set_option linter.unusedSimpArgs false
set_option maxRecDepth 20000
namespace Go.Proofs.Ytoecfgldnlglnaa
open Go Go.Wk Go.Wk.Dsk

theorem OSl.fz {v : Value} {fs : Fs} {bk bl bl' : Bl} (h : OSl 115 5 RepF (Fz bl) v fs bk) (hb : ∀ x ∈ bl, x ∈ bl') : OSl 115 5 RepF (Fz bl') v fs bk := h.mono kF fun b o hb' => hb _ hb'
theorem rRename {R l w D n t K} (hD : IsW w D l) (hO : DOk K D) (hK : K ≤ 100000) (ht : t.size ≤ 1000000000000) : Tri Try.prog 64 [.pointer (some ⟨w, 0, none⟩), .string n, .string t] R l fun v l' => v = .int .i64 (Dsk.rename D n t).1 ∧ IsW w (Dsk.rename D n t).2 l' := by
  obtain ⟨v, bkf, bl, rfl, hF⟩ := hD
  obtain ⟨p, cap, rfl⟩ := hF.val kF
  have hlen := hO.len
  have hrd := rdO (w := w) (R := R) (l := (w, wO (.slice p D.fs.length cap) D.off D.fuse) :: (bkf ++ bl)) hF (fun x hx => .inr hx)
  refine enter Try.func64 rfl rfl (by kernel_rfl) rfl fun w0 => ?_
  refine seq ?_
  refine reg ?_
  refine q (asg rfl) ?_
  refine en ?_
  refine seq ?_
  refine seq ?_
  refine reg ?_
  refine q (mv rfl) ?_
  refine q (nck rfl) ?_
  refine q (fa fo53_1 rfl) ?_
  refine q (ld na4 rfl (by first | exact mR (by assumption) | repeat (first | assumption | exact m0 | apply mS | apply mA)) (by first | rfl | assumption)) ?_
  refine en ?_
  refine ifb rfl (fun hoff => ?_) (fun hoff => ?_)
  · refine seq ?_
    refine reg ?_
    refine q (asg rfl) ?_
    refine en ?_
    refine ret (dSr ?_)
    have e : Dsk.rename D n t = (7, D) := by simp [Dsk.rename, operates, hoff]
    rw [e]
    exact finQ _ rfl rfl (fun a => Nat.le_refl _) ⟨rfl, IsW.mk hF (by simp [hoff]) rfl⟩
  · refine skp (dSq ?_)
    refine seq ?_
    refine seq ?_
    refine reg ?_
    refine q (mv rfl) ?_
    refine cl0v fb101 rfl (rRight t ht) ?_
    refine q (by first | exact bNotd rfl | exact bNot rfl) ?_
    refine en ?_
    refine ifb rfl (fun hr => ?_) (fun hr => ?_)
    · refine seq ?_
      refine reg ?_
      refine q (asg rfl) ?_
      refine en ?_
      refine ret (dSr ?_)
      have hr' : right t = false := decide_eq_false (of_decide_eq_true hr)
      have e : Dsk.rename D n t = (1, D) := by simp [Dsk.rename, operates, hoff, hr']
      rw [e]
      exact finQ _ rfl rfl (fun a => Nat.le_refl _) ⟨rfl, IsW.mk hF (by simp [hoff]) rfl⟩
    · have hr' : right t = true := decide_eq_true (Decidable.not_not.1 (of_decide_eq_false hr))
      refine skp (dSq ?_)
      refine seq ?_
      refine reg ?_
      refine q (mv rfl) ?_
      refine q (mv rfl) ?_
      refine cl0v fb102 rfl (rFind hrd (by omega)) ?_
      refine q (asg rfl) ?_
      refine en ?_
      refine seq ?_
      refine seq ?_
      refine reg ?_
      refine q (mv rfl) ?_
      refine q (bLss rfl rfl) ?_
      refine en ?_
      rcases fnd_I (fs := D.fs) (n := n) with ⟨i, f, e1, e2, e3⟩ | ⟨e1, e3⟩
      · rw [e1]
        refine ifd rfl (fun h => ?_) (fun h => ?_)
        · omega
        · refine skp (dSq ?_)
          refine seq ?_
          refine seq ?_
          refine reg ?_
          refine q (mv rfl) ?_
          refine cl fb103 rfl (rGoes (v := .slice p D.fs.length cap) (rest := bkf ++ bl) hoff hO.fuse) ?_
          rintro _ _ ⟨rfl, rfl⟩
          refine q (by first | exact bNotd rfl | exact bNot rfl) ?_
          refine en ?_
          refine ifb rfl (fun hb => ?_) (fun hb => ?_)
          · refine seq ?_
            refine reg ?_
            refine q (asg rfl) ?_
            refine en ?_
            refine ret (dSr ?_)
            have hb' : (burn D).off = true := by simpa using hb
            have e : Dsk.rename D n t = (7, burn D) := by simp [Dsk.rename, operates, hoff, e3, hb', hr']
            rw [e]
            exact finQ _ rfl rfl (fun a => Nat.le_refl _) ⟨rfl, IsW.mk (by rw [burn_fs]; exact hF) rfl rfl⟩
          · have hb' : (burn D).off = false := by simpa using hb
            have hF0 := hF
            obtain ⟨b, cs, vs, rfl, _, rfl, ⟨sg, rfl, hsg⟩, hj, hT, _⟩ := hF.at kF e2
            obtain ⟨pg, mg, capg, rfl, hlg⟩ := id hsg.len
            refine skp (dSq ?_)
            refine seq ?_
            refine reg ?_
            refine q (mv rfl) ?_
            refine q (nck rfl) ?_
            refine q (fa fo53_0 rfl) ?_
            refine q (ld na51 rfl (by first | exact mR (by assumption) | repeat (first | assumption | exact m0 | apply mS | apply mA)) (by first | rfl | assumption)) ?_
            refine q (mv rfl) ?_
            refine q (ia Try.underlying51 sz115 rfl rfl (by omega) (by omega)) ?_
            refine q (ldA ag115 rfl (by first | exact mR (by assumption) | repeat (first | assumption | exact m0 | apply mS | apply mA)) (by first | assumption | repeat constructor)) ?_
            refine al zr115 rfl ?_
            intro b1
            refine stA sz115 rfl rfl rfl rfl (by repeat (first | exact .h | apply In.t | apply In.r)) (by first | assumption | repeat constructor) ?_
            refine en ?_
            refine seq ?_
            refine reg ?_
            refine q (mv rfl) ?_
            refine q (mv rfl) ?_
            have hW : IsW w (burn D) ((w, wO (.slice (some ⟨b, 0, none⟩) D.fs.length cap) (burn D).off (burn D).fuse) :: ([(b, .cells (List.toArray cs) 115 (0, 0))] ++ bl)) := IsW.mk (by rw [burn_fs]; exact hF0) rfl rfl
            have hdrop : ∀ R', Tri Try.prog 105 [.pointer (some ⟨w, 0, none⟩), .string n] R' ((w, wO (.slice (some ⟨b, 0, none⟩) D.fs.length cap) (burn D).off (burn D).fuse) :: ([(b, .cells (List.toArray cs) 115 (0, 0))] ++ bl)) fun v l' => v = .tuple #[] ∧ ∃ v2 bk2, l' = (w, wO v2 (burn D).off (burn D).fuse) :: (bk2 ++ bl) ∧ OSl 115 5 RepF (Fz bl) v2 (Dsk.drop D.fs n) bk2 := fun R' => by
              have := rDropX (R := R') (w := w) (D := burn D) (n := n) (v := .slice (some ⟨b, 0, none⟩) D.fs.length cap) (bkf := [(b, .cells (List.toArray cs) 115 (0, 0))]) (bl := bl) (by rw [burn_fs]; exact hF0) (by rw [burn_fs]; exact hO.sd) (by rw [burn_fs]; omega)
              rw [burn_fs] at this
              exact this
            refine clT fb105 rfl (hdrop _) ?_
            rintro _ _ ⟨rfl, v2, bk2, rfl, hF2⟩
            refine en ?_
            refine seq ?_
            refine reg ?_
            refine q (mv rfl) ?_
            refine q (fa fo115_0 rfl) ?_
            refine st sz9 rfl rfl rfl (by repeat (first | exact .h | apply In.t | apply In.r)) (by first | assumption | repeat constructor) ?_
            refine en ?_
            refine seq ?_
            refine reg ?_
            refine q (mv rfl) ?_
            refine q (ldA ag115 rfl (by first | exact mR (by assumption) | repeat (first | assumption | exact m0 | apply mS | apply mA)) (by first | assumption | repeat constructor)) ?_
            refine clT fb104 rfl (rPut (D := { burn D with fs := Dsk.drop D.fs n }) (n := t) rfl hF2 hsg (hO.sd.drop n) (by have := (drop_sub (fs := D.fs) (n := n)).length_le; simp only; omega)) ?_
            rintro _ l3 ⟨rfl, hD3⟩
            refine en ?_
            refine seq ?_
            refine reg ?_
            refine q (asg rfl) ?_
            refine en ?_
            refine ret ?_
            have e : Dsk.rename D n t = (0, { burn D with fs := put (Dsk.drop D.fs n) t f }) := by simp [Dsk.rename, operates, hoff, e3, hb', hr']
            rw [e]
            exact finQ l3 rfl rfl (fun a => by first | (simp only [cnt_append, cnt_cons, cnt_nil, wO]; done) | (simp only [cnt_append, cnt_cons, cnt_nil, wO]; omega)) ⟨rfl, hD3⟩
      · rw [e1]
        refine ifd rfl (fun h => ?_) (fun h => ?_)
        · refine seq ?_
          refine reg ?_
          refine q (asg rfl) ?_
          refine en ?_
          refine ret (dSr ?_)
          have e : Dsk.rename D n t = (4, D) := by simp [Dsk.rename, operates, hoff, e3, hr']
          rw [e]
          exact finQ _ rfl rfl (fun a => Nat.le_refl _) ⟨rfl, IsW.mk hF (by simp [hoff]) rfl⟩
        · omega
end Go.Proofs.Ytoecfgldnlglnaa

