import Derived.Test.YtoecfgldnlglnaaXRf
set_option linter.unusedVariables false
set_option linter.unusedSimpArgs false
set_option maxRecDepth 20000
namespace Go.Proofs.Ytoecfgldnlglnaa
open Go Go.Wk Go.Wk.Dsk

theorem IsW.fuse {w D l} {n : Int} (h : IsW w D l) {R} : Tri Try.prog 67 [.pointer (some ⟨w, 0, none⟩), .int .i64 n] R l fun u l' => u = .tuple #[] ∧ IsW w (Dsk.fuse D n) l' := by
  obtain ⟨v, bkf, bl, rfl, hF⟩ := h
  refine (rFuse (D := D) (rest := bkf ++ bl)).mono ?_
  rintro u l' ⟨h1, rfl⟩
  exact ⟨h1, IsW.mk (D := Dsk.fuse D n) hF rfl rfl⟩
theorem rSaid {R l w D K x cs} (hD : IsW w D l) (hO : DOk K D) (hK : K ≤ 900) (hx : AOk x) (hv : ActV R x cs) :
    Tri Try.prog 29 [.pointer (some ⟨w, 0, none⟩), .agg cs.toArray] R l fun v l' => v = .tuple (List.toArray [.string (does D x).1, .int .i64 (does D x).2.1]) ∧ IsW w (does D x).2.2 l' := by
  obtain ⟨sk, st, rfl, hk, ht⟩ := hv
  obtain ⟨pk, nk, capk, rfl, hlk⟩ := id hk.len
  obtain ⟨pt, nt, capt, rfl, hlt⟩ := id ht.len
  have hxa := hx.a
  have hxb := hx.b
  have hxn := hx.n
  have hxk := hx.keep
  have hxt := hx.torn
  refine enter Try.func29 rfl rfl (by kernel_rfl) rfl fun w0 => ?_
  refine seq ?_
  refine reg ?_
  refine bx rfl rfl ?_
  intro b1
  refine q (asg rfl) ?_
  refine q (asg rfl) ?_
  refine en ?_
  refine seq ?_
  refine seq ?_
  refine reg ?_
  refine q (fa fo44_0 rfl) ?_
  refine q (ld na5 rfl (by first | exact mR (by assumption) | repeat (first | assumption | exact m0 | apply mS | apply mA)) (by first | rfl | assumption)) ?_
  refine en ?_
  refine blk ?_
  refine seq ?_
  refine reg ?_
  refine q (bEql rfl rfl) ?_
  refine q (asg rfl) ?_
  refine en ?_
  refine ifd rfl (fun h0 => ?_) (fun h0 => ?_)
  · refine seq ?_
    refine reg ?_
    refine q (mv rfl) ?_
    refine q (fa fo44_1 rfl) ?_
    refine q (ld na9 rfl (by first | exact mR (by assumption) | repeat (first | assumption | exact m0 | apply mS | apply mA)) (by first | rfl | assumption)) ?_
    refine q (fa fo44_2 rfl) ?_
    refine q (ld na9 rfl (by first | exact mR (by assumption) | repeat (first | assumption | exact m0 | apply mS | apply mA)) (by first | rfl | assumption)) ?_
    refine clT fb62 rfl (rAppend (n := x.a) (r := x.b) hD hO (by omega) (by omega)) ?_
    rintro _ l' ⟨rfl, hS⟩
    refine q (asg rfl) ?_
    refine q (asg rfl) ?_
    refine en ?_
    refine ret (dBr (dSr ?_))
    have hA : does D x = (⟨#[]⟩, append D x.a x.b) := by simp [does, h0]
    rw [hA]
    exact finQT l' rfl rfl rfl (fun a => by first | (simp only [cnt_append, cnt_cons, cnt_nil, wO]; done) | (simp only [cnt_append, cnt_cons, cnt_nil, wO]; omega)) ⟨rfl, hS⟩
  · refine seq ?_
    refine reg ?_
    refine q (bEql rfl rfl) ?_
    refine q (asg rfl) ?_
    refine en ?_
    refine ifd rfl (fun h1 => ?_) (fun h1 => ?_)
    · refine seq ?_
      refine reg ?_
      refine q (mv rfl) ?_
      refine q (fa fo44_1 rfl) ?_
      refine q (ld na9 rfl (by first | exact mR (by assumption) | repeat (first | assumption | exact m0 | apply mS | apply mA)) (by first | rfl | assumption)) ?_
      refine clT fb63 rfl (rSync (n := x.a) hD hO (by omega)) ?_
      rintro _ l' ⟨rfl, hS⟩
      refine q (asg rfl) ?_
      refine q (asg rfl) ?_
      refine en ?_
      refine ret (dBr (dSr ?_))
      have hA : does D x = (⟨#[]⟩, sync D x.a) := by simp [does, h0, h1]
      rw [hA]
      exact finQT l' rfl rfl rfl (fun a => by first | (simp only [cnt_append, cnt_cons, cnt_nil, wO]; done) | (simp only [cnt_append, cnt_cons, cnt_nil, wO]; omega)) ⟨rfl, hS⟩
    · refine seq ?_
      refine reg ?_
      refine q (bEql rfl rfl) ?_
      refine q (asg rfl) ?_
      refine en ?_
      refine ifd rfl (fun h2 => ?_) (fun h2 => ?_)
      · refine seq ?_
        refine reg ?_
        refine q (mv rfl) ?_
        refine q (fa fo44_1 rfl) ?_
        refine q (ld na9 rfl (by first | exact mR (by assumption) | repeat (first | assumption | exact m0 | apply mS | apply mA)) (by first | rfl | assumption)) ?_
        refine q (fa fo44_2 rfl) ?_
        refine q (ld na9 rfl (by first | exact mR (by assumption) | repeat (first | assumption | exact m0 | apply mS | apply mA)) (by first | rfl | assumption)) ?_
        refine clT fb64 rfl (rRename (n := x.a) (t := x.b) hD hO (by omega) (by omega)) ?_
        rintro _ l' ⟨rfl, hS⟩
        refine q (asg rfl) ?_
        refine q (asg rfl) ?_
        refine en ?_
        refine ret (dBr (dSr ?_))
        have hA : does D x = (⟨#[]⟩, rename D x.a x.b) := by simp [does, h0, h1, h2]
        rw [hA]
        exact finQT l' rfl rfl rfl (fun a => by first | (simp only [cnt_append, cnt_cons, cnt_nil, wO]; done) | (simp only [cnt_append, cnt_cons, cnt_nil, wO]; omega)) ⟨rfl, hS⟩
      · refine seq ?_
        refine reg ?_
        refine q (bEql rfl rfl) ?_
        refine q (asg rfl) ?_
        refine en ?_
        refine ifd rfl (fun h3 => ?_) (fun h3 => ?_)
        · refine seq ?_
          refine reg ?_
          refine q (mv rfl) ?_
          refine q (fa fo44_1 rfl) ?_
          refine q (ld na9 rfl (by first | exact mR (by assumption) | repeat (first | assumption | exact m0 | apply mS | apply mA)) (by first | rfl | assumption)) ?_
          refine clT fb65 rfl (rDelete (n := x.a) hD hO (by omega)) ?_
          rintro _ l' ⟨rfl, hS⟩
          refine q (asg rfl) ?_
          refine q (asg rfl) ?_
          refine en ?_
          refine ret (dBr (dSr ?_))
          have hA : does D x = (⟨#[]⟩, Dsk.delete D x.a) := by simp [does, h0, h1, h2, h3]
          rw [hA]
          exact finQT l' rfl rfl rfl (fun a => by first | (simp only [cnt_append, cnt_cons, cnt_nil, wO]; done) | (simp only [cnt_append, cnt_cons, cnt_nil, wO]; omega)) ⟨rfl, hS⟩
        · refine seq ?_
          refine reg ?_
          refine q (bEql rfl rfl) ?_
          refine q (asg rfl) ?_
          refine en ?_
          refine ifd rfl (fun h4 => ?_) (fun h4 => ?_)
          · refine seq ?_
            refine reg ?_
            refine q (mv rfl) ?_
            refine q (fa fo44_1 rfl) ?_
            refine q (ld na9 rfl (by first | exact mR (by assumption) | repeat (first | assumption | exact m0 | apply mS | apply mA)) (by first | rfl | assumption)) ?_
            refine cl0v fb66 rfl (rRead (n := x.a) (hD.rd (M := fun b o => Has R ((b1, .cells (List.toArray [.int .u8 x.k, .string x.a, .string x.b, .int .i64 x.n, .slice pk nk capk, .slice pt nt capt]) 44 (0, 0)) :: l) b o) fun y hy => .inr (List.mem_cons_of_mem _ hy)) hO (by omega)) ?_
            refine q (ext rfl rfl) ?_
            refine q (ext rfl rfl) ?_
            refine q (asg rfl) ?_
            refine q (asg rfl) ?_
            refine en ?_
            refine ret (dBr (dSr ?_))
            have hA : does D x = ((Dsk.read D x.a).1, (Dsk.read D x.a).2, D) := by simp [does, h0, h1, h2, h3, h4]
            rw [hA]
            exact finQT l rfl rfl rfl (fun a => by first | (simp only [cnt_append, cnt_cons, cnt_nil, wO]; done) | (simp only [cnt_append, cnt_cons, cnt_nil, wO]; omega)) ⟨rfl, hD⟩
          · refine seq ?_
            refine reg ?_
            refine q (bEql rfl rfl) ?_
            refine q (asg rfl) ?_
            refine en ?_
            refine ifd rfl (fun h5 => ?_) (fun h5 => ?_)
            · refine reg ?_
              refine q (mv rfl) ?_
              refine q (fa fo44_3 rfl) ?_
              refine q (ld na3 rfl (by first | exact mR (by assumption) | repeat (first | assumption | exact m0 | apply mS | apply mA)) (by first | rfl | assumption)) ?_
              refine clT fb67 rfl (hD.fuse (n := x.n)) ?_
              rintro _ l' ⟨rfl, hS⟩
              refine enD (dBn (dSq ?_))
              refine seq ?_
              refine reg ?_
              refine q (asg rfl) ?_
              refine q (asg rfl) ?_
              refine en ?_
              refine ret ?_
              have hA : does D x = (⟨#[]⟩, 0, fuse D x.n) := by simp [does, h0, h1, h2, h3, h4, h5]
              rw [hA]
              exact finQT l' rfl rfl rfl (fun a => by first | (simp only [cnt_append, cnt_cons, cnt_nil, wO]; done) | (simp only [cnt_append, cnt_cons, cnt_nil, wO]; omega)) ⟨rfl, hS⟩
            · refine seq ?_
              refine reg ?_
              refine q (bEql rfl rfl) ?_
              refine q (asg rfl) ?_
              refine en ?_
              refine ifd rfl (fun h6 => ?_) (fun h6 => ?_)
              · refine reg ?_
                refine q (mv rfl) ?_
                refine q (fa fo44_4 rfl) ?_
                refine q (ldA ag25 rfl (by first | exact mR (by assumption) | repeat (first | assumption | exact m0 | apply mS | apply mA)) (by first | assumption | repeat constructor)) ?_
                refine clT fb68 rfl (rCrash (keep := x.keep) (torn := x.torn) hD hO (by omega) (hk.mono fun b o h => .inl h) (ht.mono fun b o h => .inl h) (by omega) (by omega) hx.tornI) ?_
                rintro _ l' ⟨rfl, hS⟩
                refine enD (dBn (dSq ?_))
                refine seq ?_
                refine reg ?_
                refine q (asg rfl) ?_
                refine q (asg rfl) ?_
                refine en ?_
                refine ret ?_
                have hA : does D x = (⟨#[]⟩, 0, crash D x.keep x.torn) := by simp [does, h0, h1, h2, h3, h4, h5, h6]
                rw [hA]
                exact finQT l' rfl rfl rfl (fun a => by first | (simp only [cnt_append, cnt_cons, cnt_nil, wO]; done) | (simp only [cnt_append, cnt_cons, cnt_nil, wO]; omega)) ⟨rfl, hS⟩
              · refine seq ?_
                refine reg ?_
                refine q (bEql rfl rfl) ?_
                refine q (asg rfl) ?_
                refine en ?_
                refine ifd rfl (fun h7 => ?_) (fun h7 => ?_)
                · obtain ⟨v, bkf, bl, rfl, hF⟩ := hD
                  refine reg ?_
                  refine q (mv rfl) ?_
                  refine q (nck rfl) ?_
                  refine q (fa fo53_1 rfl) ?_
                  refine st sz4 rfl rfl rfl (by repeat (first | exact .h | apply In.t | apply In.r)) (by first | assumption | repeat constructor) ?_
                  refine enD (dBn (dSq ?_))
                  refine seq ?_
                  refine reg ?_
                  refine q (asg rfl) ?_
                  refine q (asg rfl) ?_
                  refine en ?_
                  refine ret ?_
                  have hA : does D x = (⟨#[]⟩, 0, Dsk.start D) := by simp [does, h0, h1, h2, h3, h4, h5, h6, h7]
                  rw [hA]
                  exact finQT ((w, wO v false D.fuse) :: (bkf ++ bl)) rfl rfl rfl (fun a => by first | (simp only [cnt_append, cnt_cons, cnt_nil, wO]; done) | (simp only [cnt_append, cnt_cons, cnt_nil, wO]; omega)) ⟨rfl, IsW.mk (D := Dsk.start D) hF rfl rfl⟩
                · refine skp (dBn (dSq ?_))
                  refine seq ?_
                  refine reg ?_
                  refine q (asg rfl) ?_
                  refine q (asg rfl) ?_
                  refine en ?_
                  refine ret ?_
                  have hA : does D x = (⟨#[]⟩, 0, D) := by simp [does, h0, h1, h2, h3, h4, h5, h6, h7]
                  rw [hA]
                  exact finQT l rfl rfl rfl (fun a => by first | (simp only [cnt_append, cnt_cons, cnt_nil, wO]; done) | (simp only [cnt_append, cnt_cons, cnt_nil, wO]; omega)) ⟨rfl, hD⟩
end Go.Proofs.Ytoecfgldnlglnaa

