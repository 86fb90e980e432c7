import Derived.Test.YtoecfgldnlglnaaXEl
set_option linter.unusedVariables false
set_option linter.unusedSimpArgs false
set_option maxRecDepth 20000
namespace Go.Proofs.Ytoecfgldnlglnaa
open Go Go.Wk Go.Wk.Num
theorem wCatReads {R} {s0 : List UInt8} : Tri Try.prog 11 [bs s0] R [] fun v l' => v = .bool true ∧ l' = [] := by
  have hsz := bs_size s0
  refine enter Try.func11 rfl rfl (by kernel_rfl) rfl fun w0 => ?_
  refine seq ?_
  refine reg ?_
  refine q (asg rfl) ?_
  refine en ?_
  refine seq ?_
  refine cutJ (fun e' l' => ∃ s : List UInt8, s.length ≤ 1000 ∧ e' = [(0, bs s)] ∧ l' = []) ?_ ?_
  · refine seq ?_
    refine reg ?_
    refine q (mv rfl) ?_
    refine q (lnS Try.underlying9 rfl) ?_
    refine q (bGtr rfl rfl) ?_
    refine en ?_
    refine ifd rfl (fun hb => ?_) (fun hb => ?_)
    · refine reg ?_
      refine q (mv rfl) ?_
      refine q (slT (L := 0) (H := 1000) Try.underlying9 rfl rfl rfl (by omega) (by omega)) ?_
      rw [bs_extract, List.drop_zero]
      refine q (asg rfl) ?_
      refine enD ?_
      exact dJ (by repeat first | exact Sub.nil | refine Sub.cons rfl ?_) ⟨_, by rw [List.length_take]; omega, rfl, rfl⟩
    · refine skp ?_
      exact dJ (by repeat first | exact Sub.nil | refine Sub.cons rfl ?_) ⟨s0, by omega, rfl, rfl⟩
  · rintro _ _ ⟨s, hs, rfl, rfl⟩
    refine seq ?_
    refine reg ?_
    refine q (mv rfl) ?_
    refine cl0 fb36 rfl (pRead (by omega)) ?_
    rintro _ lc hP
    rcases hP with ⟨c, M, hI, hw, rfl, hC⟩ | ⟨hno, rfl⟩
    · refine q (mv rfl) ?_
      refine q (ext rfl rfl) ?_
      refine q (ext rfl rfl) ?_
      refine q (asg rfl) ?_
      refine q (asg rfl) ?_
      refine en ?_
      refine seq ?_
      refine reg ?_
      refine q (mv rfl) ?_
      refine cl0 fb47 rfl ((rRead (R := R) hs).weak fun b o h => .inl h) ?_
      rintro _ nw hQ
      obtain ⟨u, hv, hu⟩ : ∃ u, _ = Value.tuple (List.toArray [u, .bool true]) ∧ RdT (fun b o => R b o ∨ (b, o) ∈ nw) u M := by
        rcases hQ with ⟨u, N, hIN, hwN, h1, h2⟩ | ⟨h1, _⟩
        · have := write_inj hIN hI (hwN.trans hw.symm)
          exact ⟨u, h1, this ▸ h2⟩
        · exact absurd hw (h1 M hI)
      subst hv
      obtain ⟨pT, cT, pP, cP, rfl, _, _⟩ := hu.val
      refine q (mv rfl) ?_
      refine q (ext rfl rfl) ?_
      refine q (ext rfl rfl) ?_
      refine al zr85 rfl ?_
      intro b1
      refine stA sz85 rfl rfl rfl rfl (by repeat (first | exact .h | apply In.t | apply In.r)) (by first | assumption | repeat constructor) ?_
      refine q (asg rfl) ?_
      refine en ?_
      refine seq ?_
      refine seq ?_
      refine reg ?_
      refine q (mv rfl) ?_
      refine q (mv rfl) ?_
      refine q (neS rfl rfl rfl (fun w => run_eqb Try.underlying4 w)) ?_
      refine q (mv rfl) ?_
      refine dec (t := 25) rfl (fun g1 => ?_) (fun g1 => ?_)
      · simp at g1
      · refine gT rfl rfl ?_
        refine q (mv rfl) ?_
        refine gT rfl rfl ?_
        refine q (mv rfl) ?_
        refine gT rfl rfl ?_
        refine q (neS rfl rfl rfl (fun w => run_pnil Try.underlying60 w)) ?_
        refine gT rfl rfl ?_
        refine q (neS rfl rfl rfl (fun w => run_eqb Try.underlying4 w)) ?_
        refine q (by first | exact pkT rfl rfl | exact pkF rfl rfl) ?_
        refine en ?_
        refine ifb rfl (fun g2 => ?_) (fun g2 => ?_)
        · simp at g2
        · refine skp (dSq ?_)
          refine seq ?_
          refine reg ?_
          refine q (mv rfl) ?_
          refine q (by first | exact bNotd rfl | exact bNot rfl) ?_
          refine q (mv rfl) ?_
          refine dec (t := 33) rfl (fun g3 => ?_) (fun g3 => ?_)
          · cases g3
          · refine gT rfl rfl ?_
            refine q (mv rfl) ?_
            refine gT rfl rfl ?_
            refine cl0v fb35 rfl (pWrite (hC.rd fun x hx => .inr (by simp [hx])) hI) ?_
            refine gT rfl rfl ?_
            refine q (mv rfl) ?_
            refine gT rfl rfl ?_
            refine q (sEql rfl rfl) ?_
            refine gT rfl rfl ?_
            refine q (mv rfl) ?_
            rw [hw]
            refine decd (t := 38) rfl (fun g4 => ?_) (fun g4 => ?_)
            · refine gT rfl rfl ?_
              refine q (ldA ag85 rfl (by first | exact mR (by assumption) | repeat (first | assumption | exact m0 | apply mS | apply mA)) (by first | assumption | repeat constructor)) ?_
              refine gT rfl rfl ?_
              refine cl0v fb46 rfl (rWrite (hu.mono fun b o h => h.imp id fun h => by simp [h]) hI) ?_
              refine gT rfl rfl ?_
              refine q (mv rfl) ?_
              refine gT rfl rfl ?_
              refine q (sEql rfl rfl) ?_
              rw [hw]
              refine gT rfl rfl ?_
              refine q (by first | exact pkT rfl rfl | exact pkF rfl rfl) ?_
              refine q (by first | exact pkT rfl rfl | exact pkF rfl rfl) ?_
              refine q (mv rfl) ?_
              refine decd (t := 45) rfl (fun g5 => ?_) (fun g5 => ?_)
              · refine gT rfl rfl ?_
                refine cl0v fb32 rfl pAwake ?_
                refine q (by first | exact pkT rfl rfl | exact pkF rfl rfl) ?_
                refine q (asg rfl) ?_
                refine en ?_
                refine ret ?_
                exact finQ [] rfl rfl (fun a => by first | (simp only [cnt_append, cnt_cons, cnt_nil, id]; done) | (simp only [cnt_append, cnt_cons, cnt_nil, id]; omega)) ⟨rfl, rfl⟩
              · exact absurd rfl g5
            · exact absurd rfl g4
    · refine q (mv rfl) ?_
      refine q (ext rfl rfl) ?_
      refine q (ext rfl rfl) ?_
      refine q (asg rfl) ?_
      refine q (asg rfl) ?_
      refine en ?_
      refine seq ?_
      refine reg ?_
      refine q (mv rfl) ?_
      refine cl0 fb47 rfl ((rRead (R := R) hs).weak fun b o h => .inl h) ?_
      rintro _ nw (⟨u, N, hIN, hwN, _⟩ | ⟨_, rfl⟩)
      case inl => exact absurd hwN (hno N hIN)
      refine q (mv rfl) ?_
      refine q (ext rfl rfl) ?_
      refine q (ext rfl rfl) ?_
      refine al zr85 rfl ?_
      intro b2
      refine stA sz85 rfl rfl rfl rfl (by repeat (first | exact .h | apply In.t | apply In.r)) (by first | assumption | repeat constructor) ?_
      refine q (asg rfl) ?_
      refine en ?_
      refine seq ?_
      refine seq ?_
      refine reg ?_
      refine q (mv rfl) ?_
      refine q (mv rfl) ?_
      refine q (neS rfl rfl rfl (fun w => run_eqb Try.underlying4 w)) ?_
      refine q (mv rfl) ?_
      refine dec (t := 25) rfl (fun g1 => ?_) (fun g1 => ?_)
      · simp at g1
      · refine gT rfl rfl ?_
        refine q (mv rfl) ?_
        refine gT rfl rfl ?_
        refine q (mv rfl) ?_
        refine gT rfl rfl ?_
        refine q (neS rfl rfl rfl (fun w => run_pnil Try.underlying60 w)) ?_
        refine gT rfl rfl ?_
        refine q (neS rfl rfl rfl (fun w => run_eqb Try.underlying4 w)) ?_
        refine q (by first | exact pkT rfl rfl | exact pkF rfl rfl) ?_
        refine en ?_
        refine ifb rfl (fun g2 => ?_) (fun g2 => ?_)
        · simp at g2
        · refine skp (dSq ?_)
          refine seq ?_
          refine reg ?_
          refine q (mv rfl) ?_
          refine q (by first | exact bNotd rfl | exact bNot rfl) ?_
          refine q (mv rfl) ?_
          refine dec (t := 33) rfl (fun g3 => ?_) (fun g3 => ?_)
          · first | refine gF rfl rfl rfl ?_ | refine gU rfl rfl ?_
            first | refine gF rfl rfl rfl ?_ | refine gU rfl rfl ?_
            first | refine gF rfl rfl rfl ?_ | refine gU rfl rfl ?_
            first | refine gF rfl rfl rfl ?_ | refine gU rfl rfl ?_
            first | refine gF rfl rfl rfl ?_ | refine gU rfl rfl ?_
            first | refine gF rfl rfl rfl ?_ | refine gU rfl rfl ?_
            first | refine gF rfl rfl rfl ?_ | refine gU rfl rfl ?_
            first | refine gF rfl rfl rfl ?_ | refine gU rfl rfl ?_
            first | refine gF rfl rfl rfl ?_ | refine gU rfl rfl ?_
            first | refine gF rfl rfl rfl ?_ | refine gU rfl rfl ?_
            refine q (by first | exact pkT rfl rfl | exact pkF rfl rfl) ?_
            refine q (mv rfl) ?_
            refine gT rfl rfl ?_
            refine cl0v fb32 rfl pAwake ?_
            refine q (by first | exact pkT rfl rfl | exact pkF rfl rfl) ?_
            refine q (asg rfl) ?_
            refine en ?_
            refine ret ?_
            exact finQ [] rfl rfl (fun a => by first | (simp only [cnt_append, cnt_cons, cnt_nil, id]; done) | (simp only [cnt_append, cnt_cons, cnt_nil, id]; omega)) ⟨rfl, rfl⟩
          · cases g3
theorem wCatReadsS {R} {a : ByteArray} : Tri Try.prog 11 [.string a] R [] fun v l' => v = .bool true ∧ l' = [] := by
  rw [strBs]; exact wCatReads

