import Derived.Test.YtoecfgldnlglnaaXRh
import Derived.Test.YtoecfgldnlglnaaXOpen
set_option linter.unusedVariables false
set_option linter.unusedSimpArgs false
set_option maxRecDepth 20000
namespace Go.Proofs.Ytoecfgldnlglnaa
open Go Go.Wk Go.Wk.Dsk
theorem wDiskPlays {R l v1 a1} (h1 : ActsV R v1 a1) (w1 : ∀ x ∈ a1, AW x) : Tri Try.prog 6 [v1] R l fun v l' => v = .bool true ∧ l' = l := by
  have h1' := h1
  refine enter Try.func6 rfl rfl (by kernel_rfl) rfl fun w0 => ?_
  refine seq ?_
  refine reg ?_
  refine q (asg rfl) ?_
  refine en ?_
  refine seq ?_
  refine seq ?_
  refine reg ?_
  refine q (mv rfl) ?_
  refine cl fb12 rfl (dGreat h1) ?_
  rintro _ l ⟨b, rfl, hb, rfl⟩
  refine en ?_
  refine ifb rfl (fun h => ?_) (fun h => ?_)
  · refine seq ?_
    refine reg ?_
    refine cl fb14 rfl (dAwake) ?_
    rintro _ _ ⟨rfl, rfl⟩
    refine q (asg rfl) ?_
    refine en ?_
    refine ret (dSr ?_)
    exact finQ _ rfl rfl (fun a => Nat.le_refl _) ⟨rfl, rfl⟩
  · have s1 := hb h
    have ok1 := s1.ok w1
    have n1 := s1.1
    refine skp (dSq ?_)
    refine seq ?_
    refine reg ?_
    refine cl fb15 rfl (dNew) ?_
    rintro _ _ ⟨d, l1, rfl, hD, rfl⟩
    refine q (asg rfl) ?_
    refine en ?_
    refine seq ?_
    refine reg ?_
    refine q (bd pl53 rfl .n) ?_
    refine bx rfl rfl ?_
    intro b1
    refine q (asg rfl) ?_
    refine en ?_
    refine seq ?_
    refine seq ?_
    refine reg ?_
    refine q (asg rfl) ?_
    refine en ?_
    refine blk ?_
    obtain ⟨p1, m1, cp1, _, rfl, _, hm1, _⟩ := h1'
    have hW0 : IsW b1 new [(b1, wO (.slice none 0 0) false 0)] := IsW.mk (w := b1) (D := new) (v := .slice none 0 0) (bkf := []) (bl := []) OSl.nil rfl rfl
    refine cSub (e' := [(0, .slice p1 m1 cp1), (3, (.pointer (some ⟨d, 0, none⟩))), (4, (.pointer (some ⟨b1, 0, none⟩))), (5, .int .i64 (0 : Nat))]) (by repeat first | exact Sub.nil | refine Sub.cons rfl ?_) ?_
    refine cPerm (l' := l1 ++ [(b1, wO (.slice none 0 0) false 0)] ++ l) (permC (fun a => by first | (simp only [cnt_append, cnt_cons, cnt_nil, wO, fileW]; done) | (simp only [cnt_append, cnt_cons, cnt_nil, wO, fileW]; omega))) ?_
    refine loop (fun m' e l' => ∃ (i : Nat) (D : DM) (la lw : Bl), l' = la ++ lw ++ l ∧ e = [(0, .slice p1 m1 cp1), (3, (.pointer (some ⟨d, 0, none⟩))), (4, (.pointer (some ⟨b1, 0, none⟩))), (5, .int .i64 i)] ∧ m' = m1 - i ∧ i ≤ m1 ∧ IsD d D la ∧ IsW b1 D lw ∧ DOk i D) m1 ⟨0, new, l1, _, rfl, rfl, rfl, Nat.zero_le _, hD, hW0, DOk.new 0⟩ ?_
    rintro m' _ _ ⟨i, D, la, lw, rfl, rfl, rfl, hi, hA, hB, hO⟩
    refine seq ?_
    refine seq ?_
    refine reg ?_
    refine q (mv rfl) ?_
    refine q (mv rfl) ?_
    refine q (lnL Try.underlying22 rfl) ?_
    refine q (bLss rfl rfl) ?_
    refine en ?_
    refine ifd rfl (fun h => ?_) (fun h => ?_)
    · have hin : i < m1 := by omega
      obtain ⟨x, b, o, cs, E, fz, vs, hx, rfl, hR, hv, hj, hT⟩ := h1.at hin
      have hxo := ok1 x (List.mem_of_getElem? hx)
      have hil : i < a1.length := (List.getElem?_eq_some_iff.1 hx).1
      refine skp (dSq ?_)
      refine seq ?_
      refine blk ?_
      refine seq ?_
      refine reg ?_
      refine q (mv rfl) ?_
      refine q (mv rfl) ?_
      refine q (mv rfl) ?_
      refine q (ia Try.underlying22 sz44 rfl rfl (by omega) (by omega)) ?_
      refine q (ldA ag44 rfl (by first | exact mR (by assumption) | repeat (first | assumption | exact m0 | apply mS | apply mA)) (by first | assumption | repeat constructor)) ?_
      refine clQ fb25 rfl la (lw ++ l) (fun a => by first | (simp only [cnt_append, cnt_cons, cnt_nil, wO, fileW]; done) | (simp only [cnt_append, cnt_cons, cnt_nil, wO, fileW]; omega)) (dDoes hA hO (by omega) hxo (hv.mono fun b o h => .inl h)) ?_
      rintro _ la2 ⟨rfl, hA2⟩
      refine q (mv rfl) ?_
      refine q (ext rfl rfl) ?_
      refine q (ext rfl rfl) ?_
      refine q (asg rfl) ?_
      refine q (asg rfl) ?_
      refine en ?_
      refine seq ?_
      refine reg ?_
      refine q (mv rfl) ?_
      refine q (mv rfl) ?_
      refine q (mv rfl) ?_
      refine q (ia Try.underlying22 sz44 rfl rfl (by omega) (by omega)) ?_
      refine q (ldA ag44 rfl (by first | exact mR (by assumption) | repeat (first | assumption | exact m0 | apply mS | apply mA)) (by first | assumption | repeat constructor)) ?_
      refine clQ fb29 rfl lw (la2 ++ l) (fun a => by first | (simp only [cnt_append, cnt_cons, cnt_nil, wO, fileW]; done) | (simp only [cnt_append, cnt_cons, cnt_nil, wO, fileW]; omega)) (rSaid hB hO (by omega) hxo (hv.mono fun b o h => .inl h)) ?_
      rintro _ lw2 ⟨rfl, hB2⟩
      refine q (mv rfl) ?_
      refine q (ext rfl rfl) ?_
      refine q (ext rfl rfl) ?_
      refine q (asg rfl) ?_
      refine q (asg rfl) ?_
      refine en ?_
      refine seq ?_
      refine reg ?_
      refine q (mv rfl) ?_
      refine q (mv rfl) ?_
      refine q (sNeq rfl rfl) ?_
      refine q (mv rfl) ?_
      refine decd (t := 43) rfl (fun h4 => ?_) (fun h4 => ?_)
      · exact absurd rfl h4
      · refine gT rfl rfl ?_
        refine q (mv rfl) ?_
        refine gT rfl rfl ?_
        refine q (mv rfl) ?_
        refine gT rfl rfl ?_
        refine q (bNeq rfl rfl) ?_
        refine q (by first | exact pkT rfl rfl | exact pkF rfl rfl) ?_
        refine q (mv rfl) ?_
        refine decd (t := 48) rfl (fun h5 => ?_) (fun h5 => ?_)
        · exact absurd rfl h5
        · refine gT rfl rfl ?_
          refine q (mv rfl) ?_
          refine gT rfl rfl ?_
          refine q (mv rfl) ?_
          refine gT rfl rfl ?_
          have hO2 := hO.does hxo
          refine clR fb30 rfl (la2 ++ lw2) l (fun a => by first | (simp only [cnt_append, cnt_cons, cnt_nil, wO, fileW]; done) | (simp only [cnt_append, cnt_cons, cnt_nil, wO, fileW]; omega)) (rStands hA2 hB2 hO2 (by omega)) ?_
          refine gT rfl rfl ?_
          refine q (by first | exact bNotd rfl | exact bNot rfl) ?_
          refine q (by first | exact pkT rfl rfl | exact pkF rfl rfl) ?_
          refine en ?_
          refine ifF rfl ?_
          refine skp (dBn (dSq ?_))
          refine reg ?_
          refine q (mv rfl) ?_
          refine q (by first | exact bAddi rfl rfl (by omega) | exact bAdd rfl rfl) ?_
          refine q (asg rfl) ?_
          refine enD ?_
          refine dPerm (l' := la2 ++ lw2 ++ l) (permC (fun a => by first | (simp only [cnt_append, cnt_cons, cnt_nil, wO, fileW]; done) | (simp only [cnt_append, cnt_cons, cnt_nil, wO, fileW]; omega))) (dLp (m' := m1 - (i + 1)) (e' := [(0, .slice (some ⟨b, o, none⟩) m1 cp1), (3, (.pointer (some ⟨d, 0, none⟩))), (4, (.pointer (some ⟨b1, 0, none⟩))), (5, .int .i64 (i + 1 : Nat))]) (by omega) (by repeat first | exact Sub.nil | refine Sub.cons rfl ?_) ?_)
          exact ⟨i + 1, _, la2, lw2, rfl, rfl, rfl, by omega, hA2, hB2, hO2⟩
    · refine exi (dSe (dLe (dBe (dSq ?_))))
      refine seq ?_
      refine reg ?_
      refine cl fb14 rfl (dAwake) ?_
      rintro _ l' ⟨rfl, hl'⟩
      rw [hl']
      refine q (asg rfl) ?_
      refine en ?_
      refine ret ?_
      exact finQ l rfl rfl (fun a => by first | (simp only [cnt_append, cnt_cons, cnt_nil, wO, fileW]; done) | (simp only [cnt_append, cnt_cons, cnt_nil, wO, fileW]; omega)) ⟨rfl, rfl⟩
end Go.Proofs.Ytoecfgldnlglnaa

