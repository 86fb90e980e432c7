import Derived.Test.YtoecfgldnlglnaaXDk
set_option linter.unusedVariables false
set_option linter.unusedSimpArgs false
set_option maxRecDepth 20000
namespace Go.Proofs.Ytoecfgldnlglnaa
open Go Go.Wk Go.Wk.Dsk

/-- An act whose numbers are Go's. -/
structure AW (x : AM) : Prop where
  n : -9223372036854775808 ≤ x.n ∧ x.n ≤ 9223372036854775807
  torn : ∀ y ∈ x.torn, -9223372036854775808 ≤ y ∧ y ≤ 9223372036854775807
theorem Small.ok {l : List AM} (h : Small l) (hw : ∀ x ∈ l, AW x) : ∀ x ∈ l, AOk x := fun x hx =>
  let ⟨h1, h2, h3, h4⟩ := h.2 x hx
  ⟨h1, h2, (hw x hx).n, h3, h4, (hw x hx).torn⟩
/-- Two calls of Great, and none is. -/
theorem wDiskTwin {R l v1 v2 a1 a2} (h1 : ActsV R v1 a1) (h2 : ActsV R v2 a2) (w1 : ∀ x ∈ a1, AW x) (w2 : ∀ x ∈ a2, AW x) : Tri Try.prog 7 [v1, v2] R l fun v l' => v = .bool true ∧ l' = l := by
  refine enter Try.func7 rfl rfl (by kernel_rfl) rfl fun w0 => ?_
  refine seq ?_
  refine reg ?_
  refine q (asg rfl) ?_
  refine en ?_
  refine seq ?_
  refine seq ?_
  refine reg ?_
  refine q (mv rfl) ?_
  refine cl fb12 rfl (dGreat h1) ?_
  rintro _ l ⟨b, rfl, hb, rfl⟩
  refine q (mv rfl) ?_
  refine dec (t := 10) rfl (fun h => ?_) (fun h => ?_)
  · refine gF rfl rfl rfl ?_
    refine gF rfl rfl rfl ?_
    refine q (by first | exact pkT rfl rfl | exact pkF rfl rfl) ?_
    refine en ?_
    refine ifT rfl ?_
    refine seq ?_
    refine reg ?_
    refine cl fb14 rfl (dAwake) ?_
    rintro _ _ ⟨rfl, rfl⟩
    refine q (asg rfl) ?_
    refine en ?_
    refine ret (dSr ?_)
    exact finQ _ rfl rfl (fun a => Nat.le_refl _) ⟨rfl, rfl⟩
  · refine gT rfl rfl ?_
    refine q (mv rfl) ?_
    refine gT rfl rfl ?_
    refine cl fb12 rfl (dGreat h2) ?_
    rintro _ l ⟨b', rfl, hb', rfl⟩
    refine q (by first | exact pkT rfl rfl | exact pkF rfl rfl) ?_
    refine en ?_
    refine ifb rfl (fun h' => ?_) (fun h' => ?_)
    · refine seq ?_
      refine reg ?_
      refine cl fb14 rfl (dAwake) ?_
      rintro _ _ ⟨rfl, rfl⟩
      refine q (asg rfl) ?_
      refine en ?_
      refine ret (dSr ?_)
      exact finQ _ rfl rfl (fun a => Nat.le_refl _) ⟨rfl, rfl⟩
    · have s1 := hb h
      have s2 := hb' h'
      have ok1 := s1.ok w1
      have ok2 := s2.ok w2
      have O1 : DOk 100 (plays new a1) := ((DOk.new 0).plays ok1).mono (by have := s1.1; omega)
      have O2 : DOk 200 (plays (plays new a1) a2) := (O1.plays ok2).mono (by have := s2.1; omega)
      have n1 := s1.1
      have n2 := s2.1
      refine skp (dSq ?_)
      refine seq ?_
      refine reg ?_
      refine cl fb15 rfl (dNew) ?_
      rintro _ _ ⟨d, l1, rfl, hD, rfl⟩
      refine q (asg rfl) ?_
      refine en ?_
      refine seq ?_
      refine reg ?_
      refine q (mv rfl) ?_
      refine q (mv rfl) ?_
      refine clQ fb16 rfl l1 l (fun _ => rfl) (dPlays (h1.mono fun b o h => .inl h) ok1 hD (DOk.new 0) (by omega)) ?_
      rintro _ l2 ⟨rfl, hD⟩
      refine en ?_
      refine seq ?_
      refine reg ?_
      refine q (mv rfl) ?_
      refine clQ fb19 rfl l2 l (fun _ => rfl) (dTwin hD O1 (by decide)) ?_
      rintro _ _ ⟨t, lt, rfl, hT, rfl⟩
      refine q (asg rfl) ?_
      refine en ?_
      refine seq ?_
      refine reg ?_
      refine q (mv rfl) ?_
      refine clQ fb19 rfl l2 (lt ++ l) (fun a => by simp only [cnt_append, cnt_cons, cnt_nil]; omega) (dTwin hD O1 (by decide)) ?_
      rintro _ _ ⟨u, lu, rfl, hU, rfl⟩
      refine q (asg rfl) ?_
      refine en ?_
      refine seq ?_
      refine reg ?_
      refine q (mv rfl) ?_
      refine q (mv rfl) ?_
      refine clQ fb16 rfl lt (lu ++ l2 ++ l) (fun a => by simp only [cnt_append, cnt_cons, cnt_nil]; omega) (dPlays (h2.mono fun b o h => .inl h) ok2 hT O1 (by omega)) ?_
      rintro _ l3 ⟨rfl, hT⟩
      refine en ?_
      refine seq ?_
      refine seq ?_
      refine reg ?_
      refine q (mv rfl) ?_
      refine q (mv rfl) ?_
      refine clR fb31 rfl (l2 ++ lu) (l3 ++ l) (fun a => by simp only [cnt_append, cnt_cons, cnt_nil]; omega) (dSame hD hU O1 (by decide)) ?_
      refine q (by first | exact bNotd rfl | exact bNot rfl) ?_
      refine en ?_
      refine ifF rfl ?_
      refine skp (dSq ?_)
      refine seq ?_
      refine reg ?_
      refine q (mv rfl) ?_
      refine q (mv rfl) ?_
      refine clQ fb16 rfl l2 (l3 ++ lu ++ l) (fun a => by simp only [cnt_append, cnt_cons, cnt_nil]; omega) (dPlays (h2.mono fun b o h => .inl h) ok2 hD O1 (by omega)) ?_
      rintro _ l4 ⟨rfl, hD⟩
      refine en ?_
      refine seq ?_
      refine reg ?_
      refine q (mv rfl) ?_
      refine q (mv rfl) ?_
      refine clR fb31 rfl (l4 ++ l3) (lu ++ l) (fun a => by simp only [cnt_append, cnt_cons, cnt_nil]; omega) (dSame hD hT O2 (by decide)) ?_
      refine q (mv rfl) ?_
      refine gT rfl rfl ?_
      refine cl fb14 rfl (dAwake) ?_
      rintro _ _ ⟨rfl, rfl⟩
      refine q (by first | exact pkT rfl rfl | exact pkF rfl rfl) ?_
      refine q (asg rfl) ?_
      refine en ?_
      refine ret ?_
      exact finQ l rfl rfl (fun a => by simp only [cnt_append, cnt_cons, cnt_nil]; omega) ⟨rfl, rfl⟩
end Go.Proofs.Ytoecfgldnlglnaa

