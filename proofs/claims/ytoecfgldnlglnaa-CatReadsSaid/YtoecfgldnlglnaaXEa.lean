import Derived.Test.YtoecfgldnlglnaaXCy
set_option linter.unusedVariables false
set_option linter.unusedSimpArgs false
set_option maxRecDepth 20000
namespace Go.Proofs.Ytoecfgldnlglnaa
open Go Go.Wk Go.Wk.Num
/-! # The document's catalogue -/
def tenC (p : UInt8 × Quo) : List Value := u8V p.1 :: quoC p.2
def prnR (p : Prn) : List Value := [.string p.tok.1, u8V p.slot, u8V p.role]
theorem kTen : RepK 5 (Flat tenC) := RepK.flat' (by decide) (fun _ => rfl) fun _ => rfl
theorem kPrn : RepK 3 (Flat prnR) := RepK.flat' (by decide) (fun _ => rfl) fun _ => rfl
def tensF (i : Nat) : List Quo → List (UInt8 × Quo)
  | [] => []
  | q :: qs => if 0 < q.keys then (UInt8.ofNat i, q) :: tensF (i + 1) qs else tensF (i + 1) qs
abbrev tens (qs : List Quo) : List (UInt8 × Quo) := tensF 0 qs
structure RdT (R : Rd) (v : Value) (M : CM) : Prop where
  ex : ∃ vT vP, v = .agg (List.toArray [vT, vP]) ∧ RSl 5 (Flat tenC) R vT (tens M.qs) ∧ RSl 3 (Flat prnR) R vP M.ps
theorem RdT.mono {R R' : Rd} {v M} (h : RdT R v M) (hR : ∀ b o, R b o → R' b o) : RdT R' v M := by
  obtain ⟨vT, vP, e, h1, h2⟩ := h.ex; exact ⟨vT, vP, e, h1.mono kTen hR, h2.mono kPrn hR⟩
theorem RdT.val {R v M} (h : RdT R v M) : ∃ pT cT pP cP, v = .agg (List.toArray [.slice pT (tens M.qs).length cT, .slice pP M.ps.length cP]) ∧ RSl 5 (Flat tenC) R (.slice pT (tens M.qs).length cT) (tens M.qs) ∧ RSl 3 (Flat prnR) R (.slice pP M.ps.length cP) M.ps := by
  obtain ⟨vT, vP, e, h1, h2⟩ := h.ex
  obtain ⟨pT, cT, rfl⟩ := h1.val kTen
  obtain ⟨pP, cP, rfl⟩ := h2.val kPrn
  exact ⟨_, _, _, _, e, h1, h2⟩
theorem tensF_len (i : Nat) (qs : List Quo) : (tensF i qs).length ≤ qs.length := by
  induction qs generalizing i with
  | nil => exact Nat.le_refl _
  | cons q qs ih => rw [tensF]; split <;> simp <;> have := ih (i + 1) <;> omega
theorem tens_len {M : CM} (hI : CI M) : (tens M.qs).length ≤ 4 := by have := tensF_len 0 M.qs; rw [hI.len] at this; exact this
theorem tokS (t : Tok) : (⟨(tokB t).toArray⟩ : ByteArray) = t.1 := by unfold tokB; apply ByteArray.ext; simp
theorem rText {R t} : Tri Try.prog 89 [tokV t] R [] fun v l' => v = .string t.1 ∧ l' = [] := by
  refine enter Try.func89 rfl rfl (by kernel_rfl) rfl fun w0 => ?_
  refine seq ?_
  refine reg ?_
  refine bx rfl rfl fun b1 => ?_
  refine q (asg rfl) ?_
  refine en ?_
  refine seq ?_
  refine reg ?_
  refine q (asg rfl) ?_
  refine en ?_
  refine seq ?_
  refine seq ?_
  refine reg ?_
  refine q (asg rfl) ?_
  refine en ?_
  refine blk ?_
  refine cSub (e' := [(1, .pointer (some ⟨b1, 0, none⟩)), (3, bs []), (4, .int .i64 0)]) (by repeat first | exact Sub.nil | refine Sub.cons rfl ?_) ?_
  refine loop (fun m' e l => ∃ i : Nat, m' = 8 - i ∧ i ≤ 8 ∧ e = [(1, .pointer (some ⟨b1, 0, none⟩)), (3, bs ((tokB t).take i)), (4, .int .i64 (i : Nat))] ∧ l = [(b1, .cells (tokC t).toArray 65 (0, 0))]) 8 ⟨0, rfl, by omega, rfl, rfl⟩ ?_
  rintro m' _ _ ⟨i, rfl, hi, rfl, rfl⟩
  refine seq ?_
  refine seq ?_
  refine reg ?_
  refine q (mv rfl) ?_
  refine q (bLss rfl rfl) ?_
  refine en ?_
  have h8 := tokB_len t
  refine ifd rfl (fun h => ?_) (fun h => ?_)
  · have hlt : i < 8 := by omega
    have hx : (tokB t)[i]? = some (tokB t)[i] := List.getElem?_eq_getElem (by omega)
    generalize (tokB t)[i] = b at hx
    have hc : (tokC t)[0 + ((i : Nat) : Int).toNat * 1]? = some (.int .u8 (b.toNat : Nat)) := by
      rw [Int.toNat_natCast, Nat.zero_add, Nat.mul_one, tokC_u8, List.getElem?_map, hx]; rfl
    have hb := b.toNat_lt
    refine skp (dSq ?_)
    refine seq ?_
    refine blk ?_
    refine reg ?_
    refine q (mv rfl) ?_
    refine q (mv rfl) ?_
    refine q (iaA Try.underlying65 sz5 rfl rfl (by omega) (by omega)) ?_
    refine q (ld na5 rfl (by first | exact mR (by assumption) | repeat (first | assumption | exact m0 | apply mS | apply mA)) (by first | rfl | assumption)) ?_
    refine bc1 Try.underlying136 Try.underlying5 in5 Try.underlying9 rfl (by omega) (fun b2 u => ?_)
    rw [show UInt8.ofNat b.toNat = b by simp]
    refine q (sAdd rfl rfl (by rw [bs_size, bs_size, List.length_take]; simp only [List.length_cons, List.length_nil]; omega)) ?_
    refine q (asg rfl) ?_
    refine enD (dBn (dSq ?_))
    refine reg ?_
    refine q (mv rfl) ?_
    refine q (by first | exact bAddi rfl rfl (by omega) | exact bAdd rfl rfl) ?_
    refine q (asg rfl) ?_
    refine enD ?_
    rw [bs_app, show (tokB t).take i ++ [b] = (tokB t).take (i + 1) by rw [List.take_succ_eq_append_getElem (by omega), (List.getElem?_eq_some_iff.1 hx).2]]
    exact dSub [(b1, .cells (tokC t).toArray 65 (0, 0))] (fun a => by first | (simp only [cnt_append, cnt_cons, cnt_nil, id]; done) | (simp only [cnt_append, cnt_cons, cnt_nil, id]; omega)) (dLp (m' := 8 - (i + 1)) (e' := [(1, .pointer (some ⟨b1, 0, none⟩)), (3, bs ((tokB t).take (i + 1))), (4, .int .i64 ((i + 1 : Nat) : Int))]) (by omega) (by repeat first | exact Sub.nil | refine Sub.cons rfl ?_) ⟨i + 1, rfl, by omega, rfl, rfl⟩)
  · refine exi (dSe (dLe (dBe (dSq ?_))))
    refine seq ?_
    refine reg ?_
    refine q (mv rfl) ?_
    refine q (asg rfl) ?_
    refine en ?_
    refine ret ?_
    refine finQ [] rfl rfl (fun a => by first | (simp only [cnt_append, cnt_cons, cnt_nil, id]; done) | (simp only [cnt_append, cnt_cons, cnt_nil, id]; omega)) ⟨?_, rfl⟩
    rw [List.take_of_length_le (by omega)]
    exact congrArg Value.string (tokS t)
theorem rRight {R x} : Tri Try.prog 45 [quoV x] R [] fun v l' => v = .bool (decide x.right) ∧ l' = [] := by
  refine enter Try.func45 rfl rfl (by kernel_rfl) rfl fun w0 => ?_
  refine seq ?_
  refine reg ?_
  refine bx rfl rfl ?_
  intro b1
  refine q (asg rfl) ?_
  refine en ?_
  refine seq ?_
  refine reg ?_
  refine q (fa fo89_0 rfl) ?_
  refine q (ld na3 rfl (by first | exact mR (by assumption) | repeat (first | assumption | exact m0 | apply mS | apply mA)) (by first | rfl | assumption)) ?_
  refine q (bGeq rfl rfl) ?_
  refine q (mv rfl) ?_
  refine decd (t := 6) rfl (fun h0 => ?_) (fun h0 => ?_)
  · refine gT rfl rfl ?_
    refine q (fa fo89_0 rfl) ?_
    refine gT rfl rfl ?_
    refine q (ld na3 rfl (by first | exact mR (by assumption) | repeat (first | assumption | exact m0 | apply mS | apply mA)) (by first | rfl | assumption)) ?_
    refine gT rfl rfl ?_
    refine q (bLeq rfl rfl) ?_
    refine q (by first | exact pkT rfl rfl | exact pkF rfl rfl) ?_
    refine q (mv rfl) ?_
    refine decd (t := 11) rfl (fun h1 => ?_) (fun h1 => ?_)
    · refine gT rfl rfl ?_
      refine q (fa fo89_1 rfl) ?_
      refine gT rfl rfl ?_
      refine q (ld na3 rfl (by first | exact mR (by assumption) | repeat (first | assumption | exact m0 | apply mS | apply mA)) (by first | rfl | assumption)) ?_
      refine gT rfl rfl ?_
      refine q (bGeq rfl rfl) ?_
      refine q (by first | exact pkT rfl rfl | exact pkF rfl rfl) ?_
      refine q (mv rfl) ?_
      refine decd (t := 16) rfl (fun h2 => ?_) (fun h2 => ?_)
      · refine gT rfl rfl ?_
        refine q (fa fo89_1 rfl) ?_
        refine gT rfl rfl ?_
        refine q (ld na3 rfl (by first | exact mR (by assumption) | repeat (first | assumption | exact m0 | apply mS | apply mA)) (by first | rfl | assumption)) ?_
        refine gT rfl rfl ?_
        refine q (bLeq rfl rfl) ?_
        refine q (by first | exact pkT rfl rfl | exact pkF rfl rfl) ?_
        refine q (mv rfl) ?_
        refine decd (t := 21) rfl (fun h3 => ?_) (fun h3 => ?_)
        · refine gT rfl rfl ?_
          refine q (fa fo89_2 rfl) ?_
          refine gT rfl rfl ?_
          refine q (ld na3 rfl (by first | exact mR (by assumption) | repeat (first | assumption | exact m0 | apply mS | apply mA)) (by first | rfl | assumption)) ?_
          refine gT rfl rfl ?_
          refine q (bGeq rfl rfl) ?_
          refine q (by first | exact pkT rfl rfl | exact pkF rfl rfl) ?_
          refine q (mv rfl) ?_
          refine decd (t := 26) rfl (fun h4 => ?_) (fun h4 => ?_)
          · refine gT rfl rfl ?_
            refine q (fa fo89_2 rfl) ?_
            refine gT rfl rfl ?_
            refine q (ld na3 rfl (by first | exact mR (by assumption) | repeat (first | assumption | exact m0 | apply mS | apply mA)) (by first | rfl | assumption)) ?_
            refine gT rfl rfl ?_
            refine q (bLeq rfl rfl) ?_
            refine q (by first | exact pkT rfl rfl | exact pkF rfl rfl) ?_
            refine q (mv rfl) ?_
            refine decd (t := 31) rfl (fun h5 => ?_) (fun h5 => ?_)
            · refine gT rfl rfl ?_
              refine q (fa fo89_3 rfl) ?_
              refine gT rfl rfl ?_
              refine q (ld na3 rfl (by first | exact mR (by assumption) | repeat (first | assumption | exact m0 | apply mS | apply mA)) (by first | rfl | assumption)) ?_
              refine gT rfl rfl ?_
              refine q (bGeq rfl rfl) ?_
              refine q (by first | exact pkT rfl rfl | exact pkF rfl rfl) ?_
              refine q (mv rfl) ?_
              refine decd (t := 36) rfl (fun h6 => ?_) (fun h6 => ?_)
              · refine gT rfl rfl ?_
                refine q (fa fo89_3 rfl) ?_
                refine gT rfl rfl ?_
                refine q (ld na3 rfl (by first | exact mR (by assumption) | repeat (first | assumption | exact m0 | apply mS | apply mA)) (by first | rfl | assumption)) ?_
                refine gT rfl rfl ?_
                refine q (bLeq rfl rfl) ?_
                refine q (by first | exact pkT rfl rfl | exact pkF rfl rfl) ?_
                refine q (asg rfl) ?_
                refine en ?_
                refine ret ?_
                exact finQ [] rfl rfl (fun a => by first | (simp only [cnt_append, cnt_cons, cnt_nil, id]; done) | (simp only [cnt_append, cnt_cons, cnt_nil, id]; omega)) ⟨congrArg Value.bool (decide_eq_decide.2 (by unfold Quo.right; omega)), rfl⟩
              · first | refine gF rfl rfl rfl ?_ | refine gU rfl rfl ?_
                first | refine gF rfl rfl rfl ?_ | refine gU rfl rfl ?_
                first | refine gF rfl rfl rfl ?_ | refine gU rfl rfl ?_
                refine q (by first | exact pkT rfl rfl | exact pkF rfl rfl) ?_
                refine q (asg rfl) ?_
                refine en ?_
                refine ret ?_
                exact finQ [] rfl rfl (fun a => by first | (simp only [cnt_append, cnt_cons, cnt_nil, id]; done) | (simp only [cnt_append, cnt_cons, cnt_nil, id]; omega)) ⟨by rw [decide_eq_false (by unfold Quo.right; omega)], rfl⟩
            · first | refine gF rfl rfl rfl ?_ | refine gU rfl rfl ?_
              first | refine gF rfl rfl rfl ?_ | refine gU rfl rfl ?_
              first | refine gF rfl rfl rfl ?_ | refine gU rfl rfl ?_
              refine q (by first | exact pkT rfl rfl | exact pkF rfl rfl) ?_
              refine q (mv rfl) ?_
              first | refine gF rfl rfl rfl ?_ | refine gU rfl rfl ?_
              first | refine gF rfl rfl rfl ?_ | refine gU rfl rfl ?_
              first | refine gF rfl rfl rfl ?_ | refine gU rfl rfl ?_
              refine q (by first | exact pkT rfl rfl | exact pkF rfl rfl) ?_
              refine q (asg rfl) ?_
              refine en ?_
              refine ret ?_
              exact finQ [] rfl rfl (fun a => by first | (simp only [cnt_append, cnt_cons, cnt_nil, id]; done) | (simp only [cnt_append, cnt_cons, cnt_nil, id]; omega)) ⟨by rw [decide_eq_false (by unfold Quo.right; omega)], rfl⟩
          · first | refine gF rfl rfl rfl ?_ | refine gU rfl rfl ?_
            first | refine gF rfl rfl rfl ?_ | refine gU rfl rfl ?_
            first | refine gF rfl rfl rfl ?_ | refine gU rfl rfl ?_
            refine q (by first | exact pkT rfl rfl | exact pkF rfl rfl) ?_
            refine q (mv rfl) ?_
            first | refine gF rfl rfl rfl ?_ | refine gU rfl rfl ?_
            first | refine gF rfl rfl rfl ?_ | refine gU rfl rfl ?_
            first | refine gF rfl rfl rfl ?_ | refine gU rfl rfl ?_
            refine q (by first | exact pkT rfl rfl | exact pkF rfl rfl) ?_
            refine q (mv rfl) ?_
            first | refine gF rfl rfl rfl ?_ | refine gU rfl rfl ?_
            first | refine gF rfl rfl rfl ?_ | refine gU rfl rfl ?_
            first | refine gF rfl rfl rfl ?_ | refine gU rfl rfl ?_
            refine q (by first | exact pkT rfl rfl | exact pkF rfl rfl) ?_
            refine q (asg rfl) ?_
            refine en ?_
            refine ret ?_
            exact finQ [] rfl rfl (fun a => by first | (simp only [cnt_append, cnt_cons, cnt_nil, id]; done) | (simp only [cnt_append, cnt_cons, cnt_nil, id]; omega)) ⟨by rw [decide_eq_false (by unfold Quo.right; omega)], rfl⟩
        · first | refine gF rfl rfl rfl ?_ | refine gU rfl rfl ?_
          first | refine gF rfl rfl rfl ?_ | refine gU rfl rfl ?_
          first | refine gF rfl rfl rfl ?_ | refine gU rfl rfl ?_
          refine q (by first | exact pkT rfl rfl | exact pkF rfl rfl) ?_
          refine q (mv rfl) ?_
          first | refine gF rfl rfl rfl ?_ | refine gU rfl rfl ?_
          first | refine gF rfl rfl rfl ?_ | refine gU rfl rfl ?_
          first | refine gF rfl rfl rfl ?_ | refine gU rfl rfl ?_
          refine q (by first | exact pkT rfl rfl | exact pkF rfl rfl) ?_
          refine q (mv rfl) ?_
          first | refine gF rfl rfl rfl ?_ | refine gU rfl rfl ?_
          first | refine gF rfl rfl rfl ?_ | refine gU rfl rfl ?_
          first | refine gF rfl rfl rfl ?_ | refine gU rfl rfl ?_
          refine q (by first | exact pkT rfl rfl | exact pkF rfl rfl) ?_
          refine q (mv rfl) ?_
          first | refine gF rfl rfl rfl ?_ | refine gU rfl rfl ?_
          first | refine gF rfl rfl rfl ?_ | refine gU rfl rfl ?_
          first | refine gF rfl rfl rfl ?_ | refine gU rfl rfl ?_
          refine q (by first | exact pkT rfl rfl | exact pkF rfl rfl) ?_
          refine q (asg rfl) ?_
          refine en ?_
          refine ret ?_
          exact finQ [] rfl rfl (fun a => by first | (simp only [cnt_append, cnt_cons, cnt_nil, id]; done) | (simp only [cnt_append, cnt_cons, cnt_nil, id]; omega)) ⟨by rw [decide_eq_false (by unfold Quo.right; omega)], rfl⟩
      · first | refine gF rfl rfl rfl ?_ | refine gU rfl rfl ?_
        first | refine gF rfl rfl rfl ?_ | refine gU rfl rfl ?_
        first | refine gF rfl rfl rfl ?_ | refine gU rfl rfl ?_
        refine q (by first | exact pkT rfl rfl | exact pkF rfl rfl) ?_
        refine q (mv rfl) ?_
        first | refine gF rfl rfl rfl ?_ | refine gU rfl rfl ?_
        first | refine gF rfl rfl rfl ?_ | refine gU rfl rfl ?_
        first | refine gF rfl rfl rfl ?_ | refine gU rfl rfl ?_
        refine q (by first | exact pkT rfl rfl | exact pkF rfl rfl) ?_
        refine q (mv rfl) ?_
        first | refine gF rfl rfl rfl ?_ | refine gU rfl rfl ?_
        first | refine gF rfl rfl rfl ?_ | refine gU rfl rfl ?_
        first | refine gF rfl rfl rfl ?_ | refine gU rfl rfl ?_
        refine q (by first | exact pkT rfl rfl | exact pkF rfl rfl) ?_
        refine q (mv rfl) ?_
        first | refine gF rfl rfl rfl ?_ | refine gU rfl rfl ?_
        first | refine gF rfl rfl rfl ?_ | refine gU rfl rfl ?_
        first | refine gF rfl rfl rfl ?_ | refine gU rfl rfl ?_
        refine q (by first | exact pkT rfl rfl | exact pkF rfl rfl) ?_
        refine q (mv rfl) ?_
        first | refine gF rfl rfl rfl ?_ | refine gU rfl rfl ?_
        first | refine gF rfl rfl rfl ?_ | refine gU rfl rfl ?_
        first | refine gF rfl rfl rfl ?_ | refine gU rfl rfl ?_
        refine q (by first | exact pkT rfl rfl | exact pkF rfl rfl) ?_
        refine q (asg rfl) ?_
        refine en ?_
        refine ret ?_
        exact finQ [] rfl rfl (fun a => by first | (simp only [cnt_append, cnt_cons, cnt_nil, id]; done) | (simp only [cnt_append, cnt_cons, cnt_nil, id]; omega)) ⟨by rw [decide_eq_false (by unfold Quo.right; omega)], rfl⟩
    · first | refine gF rfl rfl rfl ?_ | refine gU rfl rfl ?_
      first | refine gF rfl rfl rfl ?_ | refine gU rfl rfl ?_
      first | refine gF rfl rfl rfl ?_ | refine gU rfl rfl ?_
      refine q (by first | exact pkT rfl rfl | exact pkF rfl rfl) ?_
      refine q (mv rfl) ?_
      first | refine gF rfl rfl rfl ?_ | refine gU rfl rfl ?_
      first | refine gF rfl rfl rfl ?_ | refine gU rfl rfl ?_
      first | refine gF rfl rfl rfl ?_ | refine gU rfl rfl ?_
      refine q (by first | exact pkT rfl rfl | exact pkF rfl rfl) ?_
      refine q (mv rfl) ?_
      first | refine gF rfl rfl rfl ?_ | refine gU rfl rfl ?_
      first | refine gF rfl rfl rfl ?_ | refine gU rfl rfl ?_
      first | refine gF rfl rfl rfl ?_ | refine gU rfl rfl ?_
      refine q (by first | exact pkT rfl rfl | exact pkF rfl rfl) ?_
      refine q (mv rfl) ?_
      first | refine gF rfl rfl rfl ?_ | refine gU rfl rfl ?_
      first | refine gF rfl rfl rfl ?_ | refine gU rfl rfl ?_
      first | refine gF rfl rfl rfl ?_ | refine gU rfl rfl ?_
      refine q (by first | exact pkT rfl rfl | exact pkF rfl rfl) ?_
      refine q (mv rfl) ?_
      first | refine gF rfl rfl rfl ?_ | refine gU rfl rfl ?_
      first | refine gF rfl rfl rfl ?_ | refine gU rfl rfl ?_
      first | refine gF rfl rfl rfl ?_ | refine gU rfl rfl ?_
      refine q (by first | exact pkT rfl rfl | exact pkF rfl rfl) ?_
      refine q (mv rfl) ?_
      first | refine gF rfl rfl rfl ?_ | refine gU rfl rfl ?_
      first | refine gF rfl rfl rfl ?_ | refine gU rfl rfl ?_
      first | refine gF rfl rfl rfl ?_ | refine gU rfl rfl ?_
      refine q (by first | exact pkT rfl rfl | exact pkF rfl rfl) ?_
      refine q (asg rfl) ?_
      refine en ?_
      refine ret ?_
      exact finQ [] rfl rfl (fun a => by first | (simp only [cnt_append, cnt_cons, cnt_nil, id]; done) | (simp only [cnt_append, cnt_cons, cnt_nil, id]; omega)) ⟨by rw [decide_eq_false (by unfold Quo.right; omega)], rfl⟩
  · first | refine gF rfl rfl rfl ?_ | refine gU rfl rfl ?_
    first | refine gF rfl rfl rfl ?_ | refine gU rfl rfl ?_
    first | refine gF rfl rfl rfl ?_ | refine gU rfl rfl ?_
    refine q (by first | exact pkT rfl rfl | exact pkF rfl rfl) ?_
    refine q (mv rfl) ?_
    first | refine gF rfl rfl rfl ?_ | refine gU rfl rfl ?_
    first | refine gF rfl rfl rfl ?_ | refine gU rfl rfl ?_
    first | refine gF rfl rfl rfl ?_ | refine gU rfl rfl ?_
    refine q (by first | exact pkT rfl rfl | exact pkF rfl rfl) ?_
    refine q (mv rfl) ?_
    first | refine gF rfl rfl rfl ?_ | refine gU rfl rfl ?_
    first | refine gF rfl rfl rfl ?_ | refine gU rfl rfl ?_
    first | refine gF rfl rfl rfl ?_ | refine gU rfl rfl ?_
    refine q (by first | exact pkT rfl rfl | exact pkF rfl rfl) ?_
    refine q (mv rfl) ?_
    first | refine gF rfl rfl rfl ?_ | refine gU rfl rfl ?_
    first | refine gF rfl rfl rfl ?_ | refine gU rfl rfl ?_
    first | refine gF rfl rfl rfl ?_ | refine gU rfl rfl ?_
    refine q (by first | exact pkT rfl rfl | exact pkF rfl rfl) ?_
    refine q (mv rfl) ?_
    first | refine gF rfl rfl rfl ?_ | refine gU rfl rfl ?_
    first | refine gF rfl rfl rfl ?_ | refine gU rfl rfl ?_
    first | refine gF rfl rfl rfl ?_ | refine gU rfl rfl ?_
    refine q (by first | exact pkT rfl rfl | exact pkF rfl rfl) ?_
    refine q (mv rfl) ?_
    first | refine gF rfl rfl rfl ?_ | refine gU rfl rfl ?_
    first | refine gF rfl rfl rfl ?_ | refine gU rfl rfl ?_
    first | refine gF rfl rfl rfl ?_ | refine gU rfl rfl ?_
    refine q (by first | exact pkT rfl rfl | exact pkF rfl rfl) ?_
    refine q (mv rfl) ?_
    first | refine gF rfl rfl rfl ?_ | refine gU rfl rfl ?_
    first | refine gF rfl rfl rfl ?_ | refine gU rfl rfl ?_
    first | refine gF rfl rfl rfl ?_ | refine gU rfl rfl ?_
    refine q (by first | exact pkT rfl rfl | exact pkF rfl rfl) ?_
    refine q (asg rfl) ?_
    refine en ?_
    refine ret ?_
    exact finQ [] rfl rfl (fun a => by first | (simp only [cnt_append, cnt_cons, cnt_nil, id]; done) | (simp only [cnt_append, cnt_cons, cnt_nil, id]; omega)) ⟨by rw [decide_eq_false (by unfold Quo.right; omega)], rfl⟩
def findT : List (UInt8 × Quo) → UInt8 → Quo × Bool
  | [], _ => (Q0, false)
  | p :: ts, s => if p.1 = s then (p.2, true) else findT ts s
theorem u8eq {a b : UInt8} : ((a.toNat : Int) = b.toNat) ↔ a = b := ⟨fun h => UInt8.toNat_inj.1 (by omega), fun h => by rw [h]⟩
theorem findT_at {ts : List (UInt8 × Quo)} {s : UInt8} {i : Nat} {p : UInt8 × Quo} (h : ts[i]? = some p) : findT (ts.drop i) s = if p.1 = s then (p.2, true) else findT (ts.drop (i + 1)) s := by
  have hi := (List.getElem?_eq_some_iff.1 h).1
  rw [List.drop_eq_getElem_cons hi, (List.getElem?_eq_some_iff.1 h).2, findT]
theorem tkOf {off n : Nat} {cs vs : List Value} (hl : vs.length = n) (h0 : 0 < n) (h : ∀ j, j < n → cs[off + j]? = vs[j]?) : Tk off n cs vs := by
  have hlast : off + (n - 1) < cs.length := by
    have := h (n - 1) (by omega)
    rw [List.getElem?_eq_getElem (show n - 1 < vs.length by omega)] at this
    exact (List.getElem?_eq_some_iff.1 this).1
  have hT := Tk.any (off := off) (n := n) (cs := cs) (by omega)
  have e : (cs.drop off).take n = vs := by
    apply List.ext_getElem?
    intro j
    by_cases hj : j < n
    · rw [List.getElem?_take_of_lt hj, List.getElem?_drop, h j hj]
    · rw [List.getElem?_eq_none (by rw [List.length_take]; omega), List.getElem?_eq_none (by omega)]
  rwa [e] at hT
theorem rFind0 {R vT vP ts s} (h : RSl 5 (Flat tenC) R vT ts) (hl : ts.length ≤ 1000) : Tri Try.prog 43 [.agg (List.toArray [vT, vP]), u8V s] R [] fun v l' => v = .tuple (List.toArray [quoV (findT ts s).1, .bool (findT ts s).2]) ∧ l' = [] := by
  obtain ⟨pT, cT, rfl⟩ := h.val kTen
  refine enter Try.func43 rfl rfl (by kernel_rfl) rfl fun w0 => ?_
  refine seq ?_
  refine reg ?_
  refine bx rfl rfl ?_
  intro b1
  refine al zr89 rfl ?_
  intro b2
  refine q (asg rfl) ?_
  refine en ?_
  refine seq ?_
  refine seq ?_
  refine reg ?_
  refine q (asg rfl) ?_
  refine en ?_
  refine blk ?_
  refine cSub (e' := [(1, u8V s), (2, .pointer (some ⟨b1, 0, none⟩)), (4, .pointer (some ⟨b2, 0, none⟩)), (6, .int .i64 0)]) (by repeat first | exact Sub.nil | refine Sub.cons rfl ?_) ?_
  refine loop (fun m' e l => ∃ i : Nat, m' = ts.length - i ∧ i ≤ ts.length ∧ findT ts s = findT (ts.drop i) s ∧ e = [(1, u8V s), (2, .pointer (some ⟨b1, 0, none⟩)), (4, .pointer (some ⟨b2, 0, none⟩)), (6, .int .i64 (i : Nat))] ∧ l = [(b2, .cells (quoC Q0).toArray 89 (0, 0)), (b1, .cells (List.toArray [.slice pT ts.length cT, vP]) 85 (0, 0))]) ts.length ⟨0, rfl, by omega, rfl, rfl, rfl⟩ ?_
  rintro m' _ _ ⟨i, rfl, hi, hf, rfl, rfl⟩
  refine seq ?_
  refine seq ?_
  refine reg ?_
  refine q (mv rfl) ?_
  refine q (fa fo85_0 rfl) ?_
  refine q (ld na82 rfl (by first | exact mR (by assumption) | repeat (first | assumption | exact m0 | apply mS | apply mA)) (by first | rfl | assumption)) ?_
  refine q (lnL Try.underlying82 rfl) ?_
  refine q (bLss rfl rfl) ?_
  refine en ?_
  refine ifd rfl (fun hlt => ?_) (fun hlt => ?_)
  · have hlt : i < ts.length := by omega
    have hx := List.getElem?_eq_getElem hlt
    generalize ts[i] = p at hx
    rw [findT_at hx] at hf
    obtain ⟨b, o, cs, E, fz, vs, rfl, _, hR, rfl, hj, hTT⟩ := h.at kTen hx
    have hj0 : cs[o + ((i : Nat) : Int).toNat * 5 + 0]? = some (u8V p.1) := hj 0 (by decide)
    have hj1 : Tk (o + ((i : Nat) : Int).toNat * 5 + 1) 4 cs (quoC p.2) := tkOf rfl (by decide) fun j hjl => by
      have := hj (1 + j) (by omega)
      rw [← Nat.add_assoc] at this
      rw [this, Nat.add_comm 1 j]; rfl
    refine skp (dSq ?_)
    refine seq ?_
    refine blk ?_
    refine seq ?_
    refine reg ?_
    refine q (fa fo85_0 rfl) ?_
    refine q (ld na82 rfl (by first | exact mR (by assumption) | repeat (first | assumption | exact m0 | apply mS | apply mA)) (by first | rfl | assumption)) ?_
    refine q (mv rfl) ?_
    refine q (ia Try.underlying82 sz152 rfl rfl (by omega) (by omega)) ?_
    refine q (fa fo152_0 rfl) ?_
    refine q (ld na5 rfl (by first | exact mR (by assumption) | repeat (first | assumption | exact m0 | apply mS | apply mA)) (by first | rfl | assumption)) ?_
    refine q (mv rfl) ?_
    refine q (bEql rfl rfl) ?_
    refine en ?_
    refine ifd rfl (fun he => ?_) (fun he => ?_)
    · rw [if_pos (u8eq.1 he)] at hf
      refine seq ?_
      refine reg ?_
      refine q (fa fo85_0 rfl) ?_
      refine q (ld na82 rfl (by first | exact mR (by assumption) | repeat (first | assumption | exact m0 | apply mS | apply mA)) (by first | rfl | assumption)) ?_
      refine q (mv rfl) ?_
      refine q (ia Try.underlying82 sz152 rfl rfl (by omega) (by omega)) ?_
      refine q (fa fo152_1 rfl) ?_
      refine q (ldA ag89 rfl (by first | exact mR (by assumption) | repeat (first | assumption | exact m0 | apply mS | apply mA)) (by first | assumption | repeat constructor)) ?_
      refine stA sz89 rfl rfl rfl rfl (by repeat (first | exact .h | apply In.t | apply In.r)) (by first | assumption | repeat constructor) ?_
      refine q (asg rfl) ?_
      refine en ?_
      refine ret (dBr (dSr (dLr (dBr (dSr ?_)))))
      rw [hf]
      exact finZ [] rfl (.agg ag89 rfl m0 (tkAll rfl) (.tmp rfl .nil)) rfl (fun a => by first | (simp only [cnt_append, cnt_cons, cnt_nil, id]; done) | (simp only [cnt_append, cnt_cons, cnt_nil, id]; omega)) ⟨rfl, rfl⟩
    · rw [if_neg (fun e => he (u8eq.2 e))] at hf
      refine skp (dBn (dSq ?_))
      refine reg ?_
      refine q (mv rfl) ?_
      refine q (by first | exact bAddi rfl rfl (by omega) | exact bAdd rfl rfl) ?_
      refine q (asg rfl) ?_
      refine enD ?_
      exact dLp (m' := ts.length - (i + 1)) (e' := [(1, u8V s), (2, .pointer (some ⟨b1, 0, none⟩)), (4, .pointer (some ⟨b2, 0, none⟩)), (6, .int .i64 ((i + 1 : Nat) : Int))]) (by omega) (by repeat first | exact Sub.nil | refine Sub.cons rfl ?_) ⟨i + 1, rfl, by omega, hf, rfl, rfl⟩
  · rw [List.drop_of_length_le (by omega)] at hf
    refine exi (dSe (dLe (dBe (dSq ?_))))
    refine seq ?_
    refine reg ?_
    refine q (bd pl89 rfl .n) ?_
    refine stA sz89 rfl rfl rfl rfl (by repeat (first | exact .h | apply In.t | apply In.r)) (by first | assumption | repeat constructor) ?_
    refine q (asg rfl) ?_
    refine en ?_
    refine ret ?_
    rw [hf]
    exact finZ [] rfl (.agg ag89 rfl m0 (tkAll rfl) (.tmp rfl .nil)) rfl (fun a => by first | (simp only [cnt_append, cnt_cons, cnt_nil, id]; done) | (simp only [cnt_append, cnt_cons, cnt_nil, id]; omega)) ⟨rfl, rfl⟩
theorem findT_tensF {s : UInt8} : ∀ {qs : List Quo} {i : Nat}, i + qs.length ≤ 256 → findT (tensF i qs) s = if i ≤ s.toNat ∧ s.toNat < i + qs.length ∧ 0 < (qs.getD (s.toNat - i) Q0).keys then (qs.getD (s.toNat - i) Q0, true) else (Q0, false)
  | [], i, _ => by rw [tensF, findT, if_neg (by simp; omega)]
  | q :: qs, i, h => by
    simp only [List.length_cons] at h
    have ih := findT_tensF (s := s) (qs := qs) (i := i + 1) (by omega)
    have hi : (UInt8.ofNat i).toNat = i := u8_ofNat (by omega)
    rw [tensF]
    by_cases hs : s.toNat = i
    · have e1 : UInt8.ofNat i = s := UInt8.toNat_inj.1 (by rw [hi, hs])
      subst hs
      split
      · rename_i hq
        rw [findT, if_pos e1, if_pos ⟨Nat.le_refl _, by simp, by simpa using hq⟩]; simp
      · rename_i hq
        rw [ih, if_neg (by omega), if_neg (by simp; omega)]
    · have e1 : ¬ UInt8.ofNat i = s := fun e => hs (by rw [← e, hi])
      have e2 : i ≤ s.toNat → s.toNat - i = (s.toNat - (i + 1)) + 1 := fun h => by omega
      have e3 : (if 0 < q.keys then (UInt8.ofNat i, q) :: tensF (i + 1) qs else tensF (i + 1) qs) = if 0 < q.keys then (UInt8.ofNat i, q) :: tensF (i + 1) qs else tensF (i + 1) qs := rfl
      have e4 : findT (if 0 < q.keys then (UInt8.ofNat i, q) :: tensF (i + 1) qs else tensF (i + 1) qs) s = findT (tensF (i + 1) qs) s := by
        split
        · rw [findT, if_neg e1]
        · rfl
      rw [e4, ih]
      by_cases hle : i ≤ s.toNat
      · rw [e2 hle, List.getD_cons_succ, List.length_cons]
        simp only [show (i + 1 ≤ s.toNat) = True by simp; omega, show (i ≤ s.toNat) = True by simp [hle], true_and, show i + (qs.length + 1) = i + 1 + qs.length by omega]
      · rw [if_neg (by omega), if_neg (by omega)]
theorem findT_quota {M : CM} (hI : CI M) (s : UInt8) : findT (tens M.qs) s = M.quota s := by
  rw [findT_tensF (by rw [hI.len]; decide)]
  unfold CM.quota CM.there CM.q
  rw [hI.len, Nat.sub_zero, Nat.zero_add]
  by_cases h : s.toNat < 4 ∧ 0 < (M.qs.getD s.toNat Q0).keys
  · rw [if_pos ⟨Nat.zero_le _, h.1, h.2⟩, if_pos h]
  · rw [if_neg (fun h' => h ⟨h'.2.1, h'.2.2⟩), if_neg h]
theorem rFind {R v M s} (h : RdT R v M) (hI : CI M) : Tri Try.prog 43 [v, u8V s] R [] fun v l' => v = .tuple (List.toArray [quoV (M.quota s).1, .bool (M.quota s).2]) ∧ l' = [] := by
  obtain ⟨vT, vP, rfl, h1, h2⟩ := h.ex
  have := rFind0 (vP := vP) (s := s) h1 (by have := tens_len hI; omega)
  rwa [findT_quota hI] at this
theorem look_at {ps : List Prn} {t : Tok} {i : Nat} {p : Prn} (h : ps[i]? = some p) : look (ps.drop i) t = if p.tok = t then some (p.slot, p.role) else look (ps.drop (i + 1)) t := by
  have hi := (List.getElem?_eq_some_iff.1 h).1
  rw [List.drop_eq_getElem_cons hi, (List.getElem?_eq_some_iff.1 h).2, look]
def whoL (ps : List Prn) (t : Tok) : UInt8 × UInt8 × Bool := match look ps t with
  | some p => (p.1, p.2, true)
  | none => (0, 0, false)
theorem rWho0 {R vT vP ps t} (h : RSl 3 (Flat prnR) R vP ps) (hl : ps.length ≤ 1000) : Tri Try.prog 42 [.agg (List.toArray [vT, vP]), tokV t] R [] fun v l' => v = .tuple (List.toArray [u8V (whoL ps t).1, u8V (whoL ps t).2.1, .bool (whoL ps t).2.2]) ∧ l' = [] := by
  obtain ⟨pP, cP, rfl⟩ := h.val kPrn
  have hTt : Tk 0 8 (tokC t) (tokC t) := tkAll (tokC_len t)
  refine enter Try.func42 rfl rfl (by kernel_rfl) rfl fun w0 => ?_
  refine seq ?_
  refine reg ?_
  refine bx rfl rfl ?_
  intro b1
  refine bx rfl rfl fun b3 => ?_
  refine q (asg rfl) ?_
  refine q (asg rfl) ?_
  refine q (asg rfl) ?_
  refine en ?_
  refine seq ?_
  refine seq ?_
  refine reg ?_
  refine q (asg rfl) ?_
  refine en ?_
  refine blk ?_
  refine cSub (e' := [(2, .pointer (some ⟨b1, 0, none⟩)), (3, .pointer (some ⟨b3, 0, none⟩)), (7, .int .i64 0)]) (by repeat first | exact Sub.nil | refine Sub.cons rfl ?_) ?_
  refine loop (fun m' e l => ∃ i : Nat, m' = ps.length - i ∧ i ≤ ps.length ∧ look ps t = look (ps.drop i) t ∧ e = [(2, .pointer (some ⟨b1, 0, none⟩)), (3, .pointer (some ⟨b3, 0, none⟩)), (7, .int .i64 (i : Nat))] ∧ l = [(b3, .cells (tokC t).toArray 65 (0, 0)), (b1, .cells (List.toArray [vT, .slice pP ps.length cP]) 85 (0, 0))]) ps.length ⟨0, rfl, by omega, rfl, rfl, rfl⟩ ?_
  rintro m' _ _ ⟨i, rfl, hi, hf, rfl, rfl⟩
  refine seq ?_
  refine seq ?_
  refine reg ?_
  refine q (mv rfl) ?_
  refine q (fa fo85_1 rfl) ?_
  refine q (ld na83 rfl (by first | exact mR (by assumption) | repeat (first | assumption | exact m0 | apply mS | apply mA)) (by first | rfl | assumption)) ?_
  refine q (lnL Try.underlying83 rfl) ?_
  refine q (bLss rfl rfl) ?_
  refine en ?_
  refine ifd rfl (fun hlt => ?_) (fun hlt => ?_)
  · have hlt : i < ps.length := by omega
    have hx := List.getElem?_eq_getElem hlt
    generalize ps[i] = p at hx
    rw [look_at hx] at hf
    obtain ⟨b, o, cs, E, fz, vs, rfl, _, hR, rfl, hj, hTT⟩ := h.at kPrn hx
    have hj0 : cs[o + ((i : Nat) : Int).toNat * 3 + 0]? = some (.string p.tok.1) := hj 0 (by decide)
    have hj1 : cs[o + ((i : Nat) : Int).toNat * 3 + 1]? = some (u8V p.slot) := hj 1 (by decide)
    have hj2 : cs[o + ((i : Nat) : Int).toNat * 3 + 2]? = some (u8V p.role) := hj 2 (by decide)
    refine skp (dSq ?_)
    refine seq ?_
    refine blk ?_
    refine seq ?_
    refine drw (by kernel_rfl) [(.q, 0), (.q, 1), (.q, 2), (.q, 3), (.q, 4), (.q, 5), (.q, 6), (.q, 7), (.q, 8)] _ rfl (by kernel_rfl) (by kernel_rfl) trivial ?_
    refine xq rfl (fa fo85_1 rfl) ?_
    refine xq rfl (ld na83 rfl (by first | exact mR (by assumption) | repeat (first | assumption | exact m0 | apply mS | apply mA)) (by first | rfl | assumption)) ?_
    refine xq rfl (mv rfl) ?_
    refine xq rfl (ia Try.underlying83 sz149 rfl rfl (by omega) (by omega)) ?_
    refine xq rfl (fa fo149_0 rfl) ?_
    refine xq rfl (ld na9 rfl (by first | exact mR (by assumption) | repeat (first | assumption | exact m0 | apply mS | apply mA)) (by first | rfl | assumption)) ?_
    refine xq rfl (ldA ag65 rfl (by first | exact mR (by assumption) | repeat (first | assumption | exact m0 | apply mS | apply mA)) (by first | assumption | repeat constructor)) ?_
    refine xc rfl fb89 rfl (fun F => rText.ro) ?_
    refine xq rfl (sEql rfl rfl) ?_
    refine dSq ?_
    refine ifd rfl (fun he => ?_) (fun he => ?_)
    · rw [if_pos (Subtype.ext he)] at hf
      refine seq ?_
      refine drw (by kernel_rfl) [(.q, 0), (.q, 1), (.q, 2), (.q, 3), (.q, 4), (.q, 5), (.q, 6), (.q, 7), (.q, 8), (.q, 9), (.q, 10), (.q, 11), (.q, 12), (.q, 13), (.q, 14)] _ rfl (by kernel_rfl) (by kernel_rfl) trivial ?_
      refine xq rfl (fa fo85_1 rfl) ?_
      refine xq rfl (ld na83 rfl (by first | exact mR (by assumption) | repeat (first | assumption | exact m0 | apply mS | apply mA)) (by first | rfl | assumption)) ?_
      refine xq rfl (mv rfl) ?_
      refine xq rfl (ia Try.underlying83 sz149 rfl rfl (by omega) (by omega)) ?_
      refine xq rfl (fa fo149_1 rfl) ?_
      refine xq rfl (ld na5 rfl (by first | exact mR (by assumption) | repeat (first | assumption | exact m0 | apply mS | apply mA)) (by first | rfl | assumption)) ?_
      refine xq rfl (fa fo85_1 rfl) ?_
      refine xq rfl (ld na83 rfl (by first | exact mR (by assumption) | repeat (first | assumption | exact m0 | apply mS | apply mA)) (by first | rfl | assumption)) ?_
      refine xq rfl (mv rfl) ?_
      refine xq rfl (ia Try.underlying83 sz149 rfl rfl (by omega) (by omega)) ?_
      refine xq rfl (fa fo149_2 rfl) ?_
      refine xq rfl (ld na5 rfl (by first | exact mR (by assumption) | repeat (first | assumption | exact m0 | apply mS | apply mA)) (by first | rfl | assumption)) ?_
      refine xq rfl (asg rfl) ?_
      refine xq rfl (asg rfl) ?_
      refine xq rfl (asg rfl) ?_
      refine dSq ?_
      refine ret (dBr (dSr (dLr (dBr (dSr ?_)))))
      exact finQT [] rfl rfl rfl (fun a => by first | (simp only [cnt_append, cnt_cons, cnt_nil, id]; done) | (simp only [cnt_append, cnt_cons, cnt_nil, id]; omega)) ⟨by unfold whoL; rw [hf], rfl⟩
    · rw [if_neg (fun e => he (by rw [e]))] at hf
      refine skp (dBn (dSq ?_))
      refine reg ?_
      refine q (mv rfl) ?_
      refine q (by first | exact bAddi rfl rfl (by omega) | exact bAdd rfl rfl) ?_
      refine q (asg rfl) ?_
      refine enD ?_
      exact dLp (m' := ps.length - (i + 1)) (e' := [(2, .pointer (some ⟨b1, 0, none⟩)), (3, .pointer (some ⟨b3, 0, none⟩)), (7, .int .i64 ((i + 1 : Nat) : Int))]) (by omega) (by repeat first | exact Sub.nil | refine Sub.cons rfl ?_) ⟨i + 1, rfl, by omega, hf, rfl, rfl⟩
  · rw [List.drop_of_length_le (by omega)] at hf
    refine exi (dSe (dLe (dBe (dSq ?_))))
    refine seq ?_
    refine reg ?_
    refine q (asg rfl) ?_
    refine q (asg rfl) ?_
    refine q (asg rfl) ?_
    refine en ?_
    refine ret ?_
    exact finQT [] rfl rfl rfl (fun a => by first | (simp only [cnt_append, cnt_cons, cnt_nil, id]; done) | (simp only [cnt_append, cnt_cons, cnt_nil, id]; omega)) ⟨by unfold whoL; rw [hf]; rfl, rfl⟩
theorem rWho {R v M t} (h : RdT R v M) (hI : CI M) : Tri Try.prog 42 [v, tokV t] R [] fun v l' => v = .tuple (List.toArray [u8V (M.who t).1, u8V (M.who t).2.1, .bool (M.who t).2.2]) ∧ l' = [] := by
  obtain ⟨vT, vP, rfl, h1, h2⟩ := h.ex
  exact rWho0 h2 hI.len16

