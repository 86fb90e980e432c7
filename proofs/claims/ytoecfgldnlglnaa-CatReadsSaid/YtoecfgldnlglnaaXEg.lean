import Derived.Test.YtoecfgldnlglnaaXEf
set_option linter.unusedVariables false
set_option linter.unusedSimpArgs false
set_option maxRecDepth 20000
namespace Go.Proofs.Ytoecfgldnlglnaa
open Go Go.Wk Go.Wk.Num
def aTok : Tok := ⟨⟨#[97, 97, 97, 97, 97, 97, 97, 97]⟩, rfl⟩
theorem pName {R} : Tri Try.prog 72 [.int .u8 97] R [] fun v l' => v = tokV aTok ∧ l' = [] := by
  refine enter Try.func72 rfl rfl (by kernel_rfl) rfl fun w0 => ?_
  refine seq ?_
  refine reg ?_
  refine al zr65 rfl ?_
  intro b1
  refine en ?_
  refine seq ?_
  refine reg ?_
  refine q (mv rfl) ?_
  refine q (mv rfl) ?_
  refine q (mv rfl) ?_
  refine q (mv rfl) ?_
  refine q (mv rfl) ?_
  refine q (mv rfl) ?_
  refine q (mv rfl) ?_
  refine q (mv rfl) ?_
  refine q (bd pl65 rfl (.c1 rfl (by first | decide | simp) rfl (by repeat constructor) (.c1 rfl (by first | decide | simp) rfl (by repeat constructor) (.c1 rfl (by first | decide | simp) rfl (by repeat constructor) (.c1 rfl (by first | decide | simp) rfl (by repeat constructor) (.c1 rfl (by first | decide | simp) rfl (by repeat constructor) (.c1 rfl (by first | decide | simp) rfl (by repeat constructor) (.c1 rfl (by first | decide | simp) rfl (by repeat constructor) (.c1 rfl (by first | decide | simp) rfl (by repeat constructor) .n))))))))) ?_
  refine stA sz65 rfl rfl rfl rfl (by repeat (first | exact .h | apply In.t | apply In.r)) (by first | assumption | repeat constructor) ?_
  refine en ?_
  refine ret ?_
  exact finZ [] rfl (.agg ag65 rfl m0 (tkAll rfl) .nil) rfl (fun a => by first | (simp only [cnt_append, cnt_cons, cnt_nil, id]; done) | (simp only [cnt_append, cnt_cons, cnt_nil, id]; omega)) ⟨rfl, rfl⟩
def aQ : Quo := ⟨16, 512, 1, 9⟩
def aM1 : CM := ⟨[Q0, aQ, Q0, Q0], []⟩
def aM2 : CM := ⟨[Q0, aQ, Q0, Q0], [⟨aTok, 1, 2⟩]⟩
theorem a1 : CM.none.create 1 aQ = (0, aM1) := by
  have h : aQ.right := by unfold Quo.right aQ; decide
  unfold CM.create
  rw [if_neg (by simp [h]), if_neg (by unfold CM.there CM.q; decide), if_neg (by unfold CM.fits sumK sumB sumR; decide)]; rfl
theorem a2 : aM1.add 1 aTok 2 = (0, aM2) := by
  have h : ¬ aTok = opTok := by decide
  unfold CM.add
  rw [if_neg (by simp [h]), if_neg (by unfold CM.there CM.q; decide), if_neg (by decide), if_neg (by decide)]; rfl
theorem a3 : aM2.who aTok = (1, 2, true) := by decide
theorem g0 (n : Nat) (h : n = 0) : grpH n = [] := by rw [h, grpH_zero]
theorem a4 : aM2.write = [0, 1, 16, 132, 0, 1, 9, 0, 0, 1, 97, 97, 97, 97, 97, 97, 97, 97, 1, 2] := by
  have o16 : oneL 16 = [16] := by unfold oneL; rw [g0 _ (by decide)]; rfl
  have o1 : oneL 1 = [1] := by unfold oneL; rw [g0 _ (by decide)]; rfl
  have o9 : oneL 9 = [9] := by unfold oneL; rw [g0 _ (by decide)]; rfl
  have o512 : oneL 512 = [132, 0] := by unfold oneL; rw [grpH_pos (by decide), g0 _ (by decide)]; rfl
  have w0 : wQ Q0 = [0] := by unfold wQ; rw [if_neg (by decide)]
  have wa : wQ aQ = [1, 16, 132, 0, 1, 9] := by
    unfold wQ
    rw [if_pos (by decide)]
    show 1 :: numV [16, 512, 1, 9] = _
    unfold numV
    simp only [List.flatMap_cons, List.flatMap_nil, o16, o512, o1, o9]; rfl
  unfold CM.write aM2
  simp only [List.flatMap_cons, List.flatMap_nil, w0, wa, List.length_cons, List.length_nil, Nat.zero_add, o1]
  rfl
theorem pAwake {R} : Tri Try.prog 32 [] R [] fun v l' => v = .bool true ∧ l' = [] := by
  refine enter Try.func32 rfl rfl (by kernel_rfl) rfl fun w0 => ?_
  refine seq ?_
  refine reg ?_
  refine q (asg rfl) ?_
  refine en ?_
  refine seq ?_
  refine reg ?_
  refine cl0 fb33 rfl pNew ?_
  rintro _ l0 ⟨c, rfl, hC⟩
  rw [List.append_nil]
  have I1 : CI aM1 := by have := create_CI CI.none 1 aQ; rwa [a1] at this
  have I2 : CI aM2 := by have := add_CI I1 1 aTok 2; rwa [a2] at this
  refine q (asg rfl) ?_
  refine en ?_
  refine seq ?_
  refine reg ?_
  refine q (mv rfl) ?_
  refine q (bd pl67 rfl (.c1 rfl (by first | decide | simp) rfl (by repeat constructor) (.c1 rfl (by first | decide | simp) rfl (by repeat constructor) (.c1 rfl (by first | decide | simp) rfl (by repeat constructor) (.c1 rfl (by first | decide | simp) rfl (by repeat constructor) .n))))) ?_
  refine cl fb70 rfl (pCreate (s := 1) (x := aQ) hC CI.none) ?_
  rintro _ l1 ⟨rfl, hC⟩
  rw [a1] at hC ⊢
  refine q (asg rfl) ?_
  refine en ?_
  refine seq ?_
  refine reg ?_
  refine q (mv rfl) ?_
  refine cl0v fb72 rfl pName ?_
  refine cl fb71 rfl (pPrincipal (s := 1) (t := aTok) (r := 2) hC I1) ?_
  rintro _ l2 ⟨rfl, hC⟩
  simp only at hC
  rw [a2] at hC ⊢
  simp only at hC
  refine q (asg rfl) ?_
  refine en ?_
  refine seq ?_
  refine reg ?_
  refine q (mv rfl) ?_
  refine cl0v fb72 rfl pName ?_
  refine cl0v fb39 rfl (pWho (t := aTok) (hC.rd fun x hx => .inr hx) I2) ?_
  rw [a3]
  refine q (mv rfl) ?_
  refine q (ext rfl rfl) ?_
  refine q (ext rfl rfl) ?_
  refine q (ext rfl rfl) ?_
  refine q (asg rfl) ?_
  refine q (asg rfl) ?_
  refine q (asg rfl) ?_
  refine en ?_
  refine seq ?_
  refine reg ?_
  refine q (mv rfl) ?_
  refine q (bEql rfl rfl) ?_
  refine q (mv rfl) ?_
  refine decd (t := 23) rfl (fun h1 => ?_) (fun h1 => ?_)
  · refine gT rfl rfl ?_
    refine q (mv rfl) ?_
    refine gT rfl rfl ?_
    refine q (bEql rfl rfl) ?_
    refine q (by first | exact pkT rfl rfl | exact pkF rfl rfl) ?_
    refine q (mv rfl) ?_
    refine decd (t := 27) rfl (fun h2 => ?_) (fun h2 => ?_)
    · refine gT rfl rfl ?_
      refine q (mv rfl) ?_
      refine gT rfl rfl ?_
      refine q (bEql rfl rfl) ?_
      refine q (by first | exact pkT rfl rfl | exact pkF rfl rfl) ?_
      refine q (mv rfl) ?_
      refine decd (t := 31) rfl (fun h3 => ?_) (fun h3 => ?_)
      · refine gT rfl rfl ?_
        refine q (mv rfl) ?_
        refine gT rfl rfl ?_
        refine q (bEql rfl rfl) ?_
        refine q (by first | exact pkT rfl rfl | exact pkF rfl rfl) ?_
        refine q (mv rfl) ?_
        refine decd (t := 35) rfl (fun h4 => ?_) (fun h4 => ?_)
        · refine gT rfl rfl ?_
          refine q (mv rfl) ?_
          refine q (by first | exact pkT rfl rfl | exact pkF rfl rfl) ?_
          refine q (mv rfl) ?_
          refine gT rfl rfl ?_
          refine q (mv rfl) ?_
          refine gT rfl rfl ?_
          refine cl0v fb35 rfl (pWrite (hC.rd fun x hx => .inr hx) I2) ?_
          rw [a4]
          refine gT rfl rfl ?_
          refine q (sEql rfl rfl) ?_
          refine q (by first | exact pkT rfl rfl | exact pkF rfl rfl) ?_
          refine q (asg rfl) ?_
          refine en ?_
          refine ret ?_
          exact finQ [] rfl rfl (fun a => by first | (simp only [cnt_append, cnt_cons, cnt_nil, id]; done) | (simp only [cnt_append, cnt_cons, cnt_nil, id]; omega)) ⟨congrArg Value.bool (decide_eq_true rfl), rfl⟩
        · exact absurd rfl h4
      · exact absurd rfl h3
    · exact absurd rfl h2
  · exact absurd rfl h1

