import Derived.Test.YtoecfgldnlglnaaXRd
set_option linter.unusedVariables false
set_option linter.unusedSimpArgs false
set_option maxRecDepth 20000
namespace Go.Proofs.Ytoecfgldnlglnaa
open Go Go.Wk Go.Wk.Dsk

theorem rAppend {R l w D n r K} (hD : IsW w D l) (hO : DOk K D) (hK : K ≤ 100000) (hn : n.size ≤ 1000000000000) : Tri Try.prog 62 [.pointer (some ⟨w, 0, none⟩), .string n, .string r] R l fun v l' => v = .int .i64 (Dsk.append D n r).1 ∧ IsW w (Dsk.append D n r).2 l' := by
  obtain ⟨v, bkf, bl, rfl, hF⟩ := hD
  obtain ⟨p, cap, rfl⟩ := hF.val kF
  have hlen := hO.len
  refine enter Try.func62 rfl rfl (by kernel_rfl) rfl fun w0 => ?_
  refine seq ?_
  refine reg ?_
  refine q (asg rfl) ?_
  refine en ?_
  refine seq ?_
  refine seq ?_
  refine reg ?_
  refine q (mv rfl) ?_
  refine q (nck rfl) ?_
  refine q (fa fo53_1 rfl) ?_
  refine q (ld na4 rfl (by first | exact mR (by assumption) | repeat (first | assumption | exact m0 | apply mS | apply mA)) (by first | rfl | assumption)) ?_
  refine en ?_
  refine ifb rfl (fun hoff => ?_) (fun hoff => ?_)
  · refine seq ?_
    refine reg ?_
    refine q (asg rfl) ?_
    refine en ?_
    refine ret (dSr ?_)
    have e : Dsk.append D n r = (7, D) := by simp [Dsk.append, hoff]
    rw [e]
    exact finQ _ rfl rfl (fun a => Nat.le_refl _) ⟨rfl, IsW.mk hF (by simp [hoff]) rfl⟩
  · refine skp (dSq ?_)
    refine seq ?_
    refine seq ?_
    refine reg ?_
    refine q (mv rfl) ?_
    refine cl0v fb101 rfl (rRight n hn) ?_
    refine q (by first | exact bNotd rfl | exact bNot rfl) ?_
    refine q (mv rfl) ?_
    have bad : (right n = false ∨ r = ⟨#[]⟩) → Dsk.append D n r = (1, D) := fun h => by unfold Dsk.append; rw [if_neg (by simp [hoff]), if_pos h]
    refine dec (t := 16) rfl (fun hr => ?_) (fun hr => ?_)
    · first | refine gF rfl rfl rfl ?_ | refine gU rfl rfl ?_
      first | refine gF rfl rfl rfl ?_ | refine gU rfl rfl ?_
      first | refine gF rfl rfl rfl ?_ | refine gU rfl rfl ?_
      refine q (by first | exact pkT rfl rfl | exact pkF rfl rfl) ?_
      refine en ?_
      refine ifT rfl ?_
      refine seq ?_
      refine reg ?_
      refine q (asg rfl) ?_
      refine en ?_
      refine ret (dSr ?_)
      rw [bad (.inl (decide_eq_false (of_decide_eq_true hr)))]
      exact finQ _ rfl rfl (fun a => Nat.le_refl _) ⟨rfl, IsW.mk hF (by simp [hoff]) rfl⟩
    · have hr' : right n = true := decide_eq_true (Decidable.not_not.1 (of_decide_eq_false hr))
      refine gT rfl rfl ?_
      refine q (mv rfl) ?_
      refine gT rfl rfl ?_
      refine q (lnS Try.underlying9 rfl) ?_
      refine gT rfl rfl ?_
      refine q (bEql rfl rfl) ?_
      refine q (by first | exact pkT rfl rfl | exact pkF rfl rfl) ?_
      refine en ?_
      refine ifd rfl (fun hr0 => ?_) (fun hr0 => ?_)
      · refine seq ?_
        refine reg ?_
        refine q (asg rfl) ?_
        refine en ?_
        refine ret (dSr ?_)
        rw [bad (.inr (ByteArray.ext (Array.eq_empty_of_size_eq_zero (show r.size = 0 by omega))))]
        exact finQ _ rfl rfl (fun a => Nat.le_refl _) ⟨rfl, IsW.mk hF (by simp [hoff]) rfl⟩
      · have hre : r ≠ ⟨#[]⟩ := fun e => hr0 (by rw [e]; rfl)
        have good : ¬ (right n = false ∨ r = ⟨#[]⟩) := fun h => h.elim (fun h => by rw [hr'] at h; cases h) hre
        refine skp (dSq ?_)
        refine seq ?_
        refine reg ?_
        refine q (mv rfl) ?_
        refine q (bd pl115 rfl (.c1 rfl (by first | decide | simp) rfl (by repeat constructor) .n)) ?_
        refine al zr115 rfl ?_
        intro b1
        refine stA sz115 rfl rfl rfl rfl (by repeat (first | exact .h | apply In.t | apply In.r)) (by first | assumption | repeat constructor) ?_
        refine en ?_
        refine seq ?_
        refine reg ?_
        refine q (mv rfl) ?_
        refine q (mv rfl) ?_
        have hrd := rdO (w := w) (R := R) (l := (b1, .cells (List.toArray [.string n, .slice none 0 0, .int .i64 0, .bool false, .string ⟨#[]⟩]) 115 (0, 0)) :: (w, wO (.slice p D.fs.length cap) D.off D.fuse) :: (bkf ++ bl)) hF (fun x hx => .inr (List.mem_cons_of_mem _ hx))
        refine cl0v fb102 rfl (rFind (n := n) hrd (by omega)) ?_
        refine q (asg rfl) ?_
        refine en ?_
        refine seq ?_
        refine seq ?_
        refine reg ?_
        refine q (mv rfl) ?_
        refine q (bGeq rfl rfl) ?_
        refine en ?_
        obtain ⟨fo, hfo⟩ : ∃ fo, fo = fileOf D n := ⟨_, rfl⟩
        refine cutJ (fun e l' => ∃ s, SlC 1 (Fz bl) s (fo.recs.map .string) ∧ e = [(0, (.pointer (some ⟨w, 0, none⟩))), (1, .string n), (2, .string r), (7, .pointer (some ⟨b1, 0, none⟩))] ∧ l' = (b1, .cells (List.toArray (fileW n s fo)) 115 (0, 0)) :: (w, wO (.slice p D.fs.length cap) D.off D.fuse) :: (bkf ++ bl)) ?_ ?_
        · refine ifd rfl (fun hk => ?_) (fun hk => ?_)
          · rcases fnd_I (fs := D.fs) (n := n) with ⟨i, f, e1, e2, e3⟩ | ⟨e1, e3⟩
            · rw [e1]
              have e : fo = f := by rw [hfo]; simp [fileOf, e3]
              subst e
              have hin := (List.getElem?_eq_some_iff.1 e2).1
              obtain ⟨b, cs, vs, rfl, _, rfl, ⟨sg, rfl, hsg⟩, hj, hT, _⟩ := hF.at kF e2
              obtain ⟨ps, ms, caps, rfl, hls⟩ := id hsg.len
              refine reg ?_
              refine q (mv rfl) ?_
              refine q (nck rfl) ?_
              refine q (fa fo53_0 rfl) ?_
              refine q (ld na51 rfl (by first | exact mR (by assumption) | repeat (first | assumption | exact m0 | apply mS | apply mA)) (by first | rfl | assumption)) ?_
              refine q (mv rfl) ?_
              refine q (ia Try.underlying51 sz115 rfl rfl (by omega) (by omega)) ?_
              refine q (ldA ag115 rfl (by first | exact mR (by assumption) | repeat (first | assumption | exact m0 | apply mS | apply mA)) (by first | assumption | repeat constructor)) ?_
              refine stA sz115 rfl rfl rfl rfl (by repeat (first | exact .h | apply In.t | apply In.r)) (by first | assumption | repeat constructor) ?_
              refine enD ?_
              exact dJ (by repeat first | exact Sub.nil | refine Sub.cons rfl ?_) ⟨_, hsg, rfl, rfl⟩
            · omega
          · have e : fo = File.none := by
              rcases fnd_I (fs := D.fs) (n := n) with ⟨i, f, e1, e2, e3⟩ | ⟨e1, e3⟩
              · omega
              · rw [hfo]; simp [fileOf, e3]
            refine skp ?_
            exact dJ (by repeat first | exact Sub.nil | refine Sub.cons rfl ?_) ⟨.slice none 0 0, by rw [e]; exact SlC.nil, rfl, by rw [e]; rfl⟩
        · rintro _ _ ⟨s, hs, rfl, rfl⟩
          obtain ⟨ps, ms, caps, rfl, hls⟩ := id hs.len
          simp only [List.length_map, Nat.mul_one] at hls
          subst hls
          unfold fileW
          have hff := hO.fileOf n
          rw [← hfo] at hff
          have hrl := hff.len
          refine seq ?_
          refine seq ?_
          refine reg ?_
          refine q (fa fo115_3 rfl) ?_
          refine q (ld na4 rfl (by first | exact mR (by assumption) | repeat (first | assumption | exact m0 | apply mS | apply mA)) (by first | rfl | assumption)) ?_
          refine en ?_
          refine ifb rfl (fun hct => ?_) (fun hct => ?_)
          · refine seq ?_
            refine reg ?_
            refine q (asg rfl) ?_
            refine en ?_
            refine ret (dSr ?_)
            have e : Dsk.append D n r = (9, D) := by unfold Dsk.append; rw [if_neg (by simp [hoff]), if_neg good, ← hfo, if_pos hct]
            rw [e]
            exact finQ ((w, wO (.slice p D.fs.length cap) D.off D.fuse) :: (bkf ++ bl)) rfl rfl (fun a => by first | (simp only [cnt_append, cnt_cons, cnt_nil, wO]; done) | (simp only [cnt_append, cnt_cons, cnt_nil, wO]; omega)) ⟨rfl, IsW.mk hF rfl rfl⟩
          · refine skp (dSq ?_)
            refine seq ?_
            refine seq ?_
            refine reg ?_
            refine q (mv rfl) ?_
            refine clT fb103 rfl (rGoes (v := .slice p D.fs.length cap) (rest := bkf ++ bl) hoff hO.fuse) ?_
            rintro _ _ ⟨rfl, rfl⟩
            refine q (by first | exact bNotd rfl | exact bNot rfl) ?_
            refine en ?_
            refine ifb rfl (fun hb => ?_) (fun hb => ?_)
            · refine seq ?_
              refine reg ?_
              refine q (asg rfl) ?_
              refine en ?_
              refine ret (dSr ?_)
              have hb' : (burn D).off = true := by simpa using hb
              have e : Dsk.append D n r = (7, burn D) := by unfold Dsk.append; rw [if_neg (by simp [hoff]), if_neg good, ← hfo, if_neg (by simp [hct]), if_pos hb']
              rw [e]
              exact finQ ((w, wO (.slice p D.fs.length cap) (burn D).off (burn D).fuse) :: (bkf ++ bl)) rfl rfl (fun a => by first | (simp only [cnt_append, cnt_cons, cnt_nil, wO]; done) | (simp only [cnt_append, cnt_cons, cnt_nil, wO]; omega)) ⟨rfl, IsW.mk (by rw [burn_fs]; exact hF) rfl rfl⟩
            · have hb' : (burn D).off = false := by simpa using hb
              refine skp (dSq ?_)
              refine seq ?_
              refine reg ?_
              refine eo (eBs0 Try.underlying33 sz9) ?_
              rintro _ _ ⟨b2, rfl, rfl⟩
              refine q (fa fo115_1 rfl) ?_
              refine q (ld na33 rfl (by first | exact mR (by assumption) | repeat (first | assumption | exact m0 | apply mS | apply mA)) (by first | rfl | assumption)) ?_
              refine eo (eAp ((b1, .cells (List.toArray [.string n, .slice ps fo.recs.length caps, .int .i64 fo.synced, .bool fo.cut, .string fo.torn]) 115 (0, 0)) :: (w, wO (.slice p D.fs.length cap) (burn D).off (burn D).fuse) :: (bkf ++ bl)) Try.underlying33 in9 (by decide) rfl rfl rfl SlO.empty (fun _ => rfl) (fun a => Nat.le_refl _) (fun w' hr' => hs.1.src (fun b o hb => .inr (by simp [show (b, o) ∈ bl from hb])) hr' Try.underlying33 (all_one_map _ fun _ => rfl)) (by omega) (by omega)) ?_
              rintro v1 _ ⟨bk1, hO1, rfl⟩
              obtain ⟨p1, m1, cap1, rfl, hl1⟩ := hO1.toI.len
              simp only [List.nil_append, List.length_map, Nat.mul_one] at hl1 hO1
              subst hl1
              refine q (mv rfl) ?_
              refine eo (eBs Try.underlying33 sz9 z9 ⟨by decide, by decide⟩ rfl (.c1 rfl (by decide) rfl .z .n)) ?_
              rintro _ _ ⟨b3, rfl, rfl⟩
              refine eo (eAp ((b1, .cells (List.toArray [.string n, .slice ps fo.recs.length caps, .int .i64 fo.synced, .bool fo.cut, .string fo.torn]) 115 (0, 0)) :: (w, wO (.slice p D.fs.length cap) (burn D).off (burn D).fuse) :: (bkf ++ bl)) (l2 := (b3, .cells (List.toArray [.string r]) 9 (0, 0)) :: (b1, .cells (List.toArray [.string n, .slice ps fo.recs.length caps, .int .i64 fo.synced, .bool fo.cut, .string fo.torn]) 115 (0, 0)) :: (w, wO (.slice p D.fs.length cap) (burn D).off (burn D).fuse) :: (bkf ++ bl)) (m := 1) (ys := [.string r]) Try.underlying33 in9 (by decide) rfl rfl rfl hO1 (fun a => by first | (simp only [cnt_append, cnt_cons, cnt_nil, wO]; done) | (simp only [cnt_append, cnt_cons, cnt_nil, wO]; omega)) (fun a => by first | (simp only [cnt_append, cnt_cons, cnt_nil, wO]; done) | (simp only [cnt_append, cnt_cons, cnt_nil, wO]; omega)) (fun w' hr' => SlV.src (M := fun b o => (b, o) = (b3, .cells (List.toArray [.string r]) 9 (0, 0))) ⟨_, 1, _, rfl, rfl, .inr ⟨b3, 0, _, 9, _, rfl, rfl, fun j hj => by simp⟩⟩ (fun b o hb => by cases hb; exact m0) hr' Try.underlying33 rfl) (by omega) (by omega)) ?_
              rintro v2 _ ⟨bk2, hO2, rfl⟩
              obtain ⟨p2, m2, cap2, rfl, hl2⟩ := hO2.toI.len
              refine q (fa fo115_1 rfl) ?_
              refine st sz33 rfl rfl rfl (by repeat (first | exact .h | apply In.t | apply In.r)) (by first | assumption | repeat constructor) ?_
              refine en ?_
              refine seq ?_
              refine reg ?_
              refine q (mv rfl) ?_
              refine q (ldA ag115 rfl (by first | exact mR (by assumption) | repeat (first | assumption | exact m0 | apply mS | apply mA)) (by first | assumption | repeat constructor)) ?_
              have hF2 : OSl 115 5 RepF (Fz (bk2 ++ bl)) (.slice p D.fs.length cap) (burn D).fs bkf := by rw [burn_fs]; exact OSl.fz hF fun x hx => by simp [hx]
              have hs2 : SlC 1 (Fz (bk2 ++ bl)) (.slice p2 m2 cap2) (({ fo with recs := fo.recs ++ [r] } : File).recs.map .string) := by
                have := hO2.toI.toC (R := Fz (bk2 ++ bl)) (fun x hx => by simp [Fz, show (x.1, x.2) ∈ bk2 from hx])
                simpa using this
              refine clQ fb104 rfl ((w, wO (.slice p D.fs.length cap) (burn D).off (burn D).fuse) :: (bkf ++ (bk2 ++ bl))) [(b1, .cells (List.toArray [.string n, .slice p2 m2 cap2, .int .i64 fo.synced, .bool fo.cut, .string fo.torn]) 115 (0, 0))] (fun a => by first | (simp only [cnt_append, cnt_cons, cnt_nil, wO]; done) | (simp only [cnt_append, cnt_cons, cnt_nil, wO]; omega)) (rPut (D := burn D) (n := n) (f := { fo with recs := fo.recs ++ [r] }) rfl hF2 hs2 (by rw [burn_fs]; exact hO.sd) (by rw [burn_fs]; omega)) ?_
              rintro _ l3 ⟨rfl, hD3⟩
              refine en ?_
              refine seq ?_
              refine reg ?_
              refine q (asg rfl) ?_
              refine en ?_
              refine ret ?_
              have e : Dsk.append D n r = (0, { burn D with fs := put (burn D).fs n { fo with recs := fo.recs ++ [r] } }) := by unfold Dsk.append; rw [if_neg (by simp [hoff]), if_neg good, ← hfo, if_neg (by simp [hct]), if_neg (by simp [hb']), burn_fs]
              rw [e]
              exact finQ l3 rfl rfl (fun a => by first | (simp only [cnt_append, cnt_cons, cnt_nil, wO]; done) | (simp only [cnt_append, cnt_cons, cnt_nil, wO]; omega)) ⟨rfl, hD3⟩
end Go.Proofs.Ytoecfgldnlglnaa

