import Derived.Test.YtoecfgldnlglnaaXEb
set_option linter.unusedVariables false
set_option linter.unusedSimpArgs false
set_option maxRecDepth 20000
namespace Go.Proofs.Ytoecfgldnlglnaa
open Go Go.Wk Go.Wk.Num
theorem filt_snoc {α : Type} {f : α → Bool} {ts : List α} {i : Nat} {p : α} (hx : ts[i]? = some p) : (ts.take (i + 1)).filter f = (ts.take i).filter f ++ (if f p then [p] else []) := by
  rw [tk_snoc hx, List.filter_append]
  congr 1
  by_cases h : f p = true
  · rw [if_pos h, List.filter_cons_of_pos h]; rfl
  · rw [if_neg h, List.filter_cons_of_neg h]; rfl
theorem filt_len {α : Type} {f : α → Bool} {ts : List α} {i : Nat} : ((ts.take i).filter f).length ≤ ts.length := by
  have h1 := List.length_filter_le f (ts.take i)
  have h2 := List.length_take_le i ts
  rw [List.length_take] at h1; omega
theorem rDrop {R v M t} (h : RdT R v M) (hI : CI M) : Tri Try.prog 88 [v, tokV t] R [] fun v' nw => ∃ u, v' = .tuple (List.toArray [u, u8V (M.drop t).1]) ∧ RdT (fun b o => R b o ∨ (b, o) ∈ nw) u (M.drop t).2 := by
  have hr0 := h
  obtain ⟨pT, cT, pP, cP, rfl, hTs, hPs⟩ := h.val
  have hTt : Tk 0 8 (tokC t) (tokC t) := tkAll (tokC_len t)
  have hlen := hI.len16'
  refine enter Try.func88 rfl rfl (by kernel_rfl) rfl fun w0 => ?_
  refine seq ?_
  refine reg ?_
  refine bx rfl rfl ?_
  intro b1
  refine bx rfl rfl fun b3 => ?_
  refine al zr85 rfl ?_
  intro b2
  refine q (asg rfl) ?_
  refine en ?_
  refine seq ?_
  refine reg ?_
  refine q (ldA ag85 rfl (by first | exact mR (by assumption) | repeat (first | assumption | exact m0 | apply mS | apply mA)) (by first | assumption | repeat constructor)) ?_
  refine q (ldA ag65 rfl (by first | exact mR (by assumption) | repeat (first | assumption | exact m0 | apply mS | apply mA)) (by first | assumption | repeat constructor)) ?_
  refine cl0v fb42 rfl (rWho (hr0.mono fun b o h => .inl h) hI) ?_
  refine q (mv rfl) ?_
  refine q (ext rfl rfl) ?_
  refine q (ext rfl rfl) ?_
  refine q (ext rfl rfl) ?_
  refine q (asg rfl) ?_
  refine q (asg rfl) ?_
  refine q (asg rfl) ?_
  refine en ?_
  refine seq ?_
  refine seq ?_
  refine reg ?_
  refine q (mv rfl) ?_
  refine q (by first | exact bNotd rfl | exact bNot rfl) ?_
  refine en ?_
  refine ifb rfl (fun hq => ?_) (fun hq => ?_)
  · have hn : look M.ps t = Option.none := by
      have hq : (!(M.who t).2.2) = true := hq
      unfold CM.who at hq
      cases hl : look M.ps t with
      | none => rfl
      | some x => rw [hl] at hq; cases hq
    have e : M.drop t = (1, M) := by unfold CM.drop; rw [if_neg (by rw [hn]; decide)]
    refine seq ?_
    refine reg ?_
    refine q (ldA ag85 rfl (by first | exact mR (by assumption) | repeat (first | assumption | exact m0 | apply mS | apply mA)) (by first | assumption | repeat constructor)) ?_
    refine stA sz85 rfl rfl rfl rfl (by repeat (first | exact .h | apply In.t | apply In.r)) (by first | assumption | repeat constructor) ?_
    refine q (asg rfl) ?_
    refine en ?_
    refine ret (dSr ?_)
    rw [e]
    exact finZ [] rfl (.agg ag85 rfl m0 (tkAll rfl) (.tmp rfl .nil)) rfl (fun a => by first | (simp only [cnt_append, cnt_cons, cnt_nil, id]; done) | (simp only [cnt_append, cnt_cons, cnt_nil, id]; omega)) ⟨_, rfl, hr0.mono fun b o h => .inl h⟩
  · have hn : (look M.ps t).isSome = true := by
      have hq : (!(M.who t).2.2) = false := hq
      unfold CM.who at hq
      cases hl : look M.ps t with
      | none => rw [hl] at hq; cases hq
      | some x => rfl
    have e : M.drop t = (0, { M with ps := M.ps.filter (·.tok ≠ t) }) := by unfold CM.drop; rw [if_pos hn]
    rw [e]
    refine skp (dSq ?_)
    refine seq ?_
    refine reg ?_
    refine q (asg rfl) ?_
    refine en ?_
    refine seq ?_
    refine seq ?_
    refine reg ?_
    refine q (asg rfl) ?_
    refine en ?_
    refine blk ?_
    refine cSub (e' := [(2, .pointer (some ⟨b1, 0, none⟩)), (3, .pointer (some ⟨b3, 0, none⟩)), (4, .pointer (some ⟨b2, 0, none⟩)), (9, .slice none 0 0), (10, .int .i64 (0 : Nat))]) (by repeat first | exact Sub.nil | refine Sub.cons rfl ?_) ?_
    refine loop (fun m' e l => ∃ (i : Nat) (vO : Value) (bk : Bl), m' = M.ps.length - i ∧ i ≤ M.ps.length ∧ OSl 149 3 (Flat prnR) (fun _ _ => False) vO ((M.ps.take i).filter (·.tok ≠ t)) bk ∧ e = [(2, .pointer (some ⟨b1, 0, none⟩)), (3, .pointer (some ⟨b3, 0, none⟩)), (4, .pointer (some ⟨b2, 0, none⟩)), (9, vO), (10, .int .i64 (i : Nat))] ∧ l = bk ++ [(b2, .cells (List.toArray [.slice none 0 0, .slice none 0 0]) 85 (0, 0)), (b3, .cells (tokC t).toArray 65 (0, 0)), (b1, .cells (List.toArray [.slice pT (tens M.qs).length cT, .slice pP M.ps.length cP]) 85 (0, 0))]) M.ps.length ⟨0, _, [], rfl, by omega, OSl.nil, rfl, rfl⟩ ?_
    rintro m' _ _ ⟨i, vO, bk, rfl, hi, hO, rfl, rfl⟩
    obtain ⟨pO, cO, rfl⟩ := hO.val kPrn
    have hol := filt_len (f := fun p : Prn => decide (p.tok ≠ t)) (ts := M.ps) (i := i)
    refine seq ?_
    refine seq ?_
    refine reg ?_
    refine q (mv rfl) ?_
    refine q (fa fo85_1 rfl) ?_
    refine q (ld na83 rfl (by first | exact mR (by assumption) | repeat (first | assumption | exact m0 | apply mS | apply mA)) (by first | rfl | assumption)) ?_
    refine q (lnL Try.underlying83 rfl) ?_
    refine q (bLss rfl rfl) ?_
    refine en ?_
    refine ifd rfl (fun hlt => ?_) (fun hlt => ?_)
    · have hlt : i < M.ps.length := by omega
      have hx := List.getElem?_eq_getElem hlt
      generalize M.ps[i] = p at hx
      have hsn := filt_snoc (f := fun p : Prn => decide (p.tok ≠ t)) hx
      obtain ⟨b', o, cs, E, fz, vs, rfl, _, hR, rfl, hj, hTT⟩ := hPs.at kPrn hx
      have hj0 : cs[o + ((i : Nat) : Int).toNat * 3 + 0]? = some (.string p.tok.1) := hj 0 (by decide)
      refine skp (dSq ?_)
      refine seq ?_
      refine blk ?_
      refine seq ?_
      refine drw (by kernel_rfl) [(.q, 0), (.q, 1), (.q, 2), (.q, 3), (.q, 4), (.q, 5), (.q, 6), (.q, 7), (.q, 8)] _ rfl (by kernel_rfl) (by kernel_rfl) trivial ?_
      refine xq rfl (fa fo85_1 rfl) ?_
      refine xq rfl (ld na83 rfl (by first | exact mR (by assumption) | repeat (first | assumption | exact m0 | apply mS | apply mA)) (by first | rfl | assumption)) ?_
      refine xq rfl (mv rfl) ?_
      refine xq rfl (ia Try.underlying83 sz149 rfl rfl (by omega) (by omega)) ?_
      refine xq rfl (fa fo149_0 rfl) ?_
      refine xq rfl (ld na9 rfl (by first | exact mR (by assumption) | repeat (first | assumption | exact m0 | apply mS | apply mA)) (by first | rfl | assumption)) ?_
      refine xq rfl (ldA ag65 rfl (by first | exact mR (by assumption) | repeat (first | assumption | exact m0 | apply mS | apply mA)) (by first | assumption | repeat constructor)) ?_
      refine xc rfl fb89 rfl (fun F => rText.ro) ?_
      refine xq rfl (sNeq rfl rfl) ?_
      refine dSq ?_
      refine ifd rfl (fun hne => ?_) (fun hne => ?_)
      · have hne' : decide (p.tok ≠ t) = true := decide_eq_true fun e => hne (by rw [e])
        rw [if_pos hne'] at hsn
        refine reg ?_
        refine q (mv rfl) ?_
        refine q (fa fo85_1 rfl) ?_
        refine q (ld na83 rfl (by first | exact mR (by assumption) | repeat (first | assumption | exact m0 | apply mS | apply mA)) (by first | rfl | assumption)) ?_
        refine q (mv rfl) ?_
        refine q (ia Try.underlying83 sz149 rfl rfl (by omega) (by omega)) ?_
        refine q (ldA ag149 rfl (by first | exact mR (by assumption) | repeat (first | assumption | exact m0 | apply mS | apply mA)) (by first | assumption | repeat constructor)) ?_
        refine apO (l2 := [(b2, .cells (List.toArray [.slice none 0 0, .slice none 0 0]) 85 (0, 0)), (b3, .cells (tokC t).toArray 65 (0, 0)), (b1, .cells (List.toArray [.slice pT (tens M.qs).length cT, .slice (some ⟨b', o, none⟩) M.ps.length cP]) 85 (0, 0))]) Try.underlying83 in149 rfl kPrn hO (a := p) rfl (by omega) (by omega) (by decide) (fun a => by first | (simp only [cnt_append, cnt_cons, cnt_nil, id]; done) | (simp only [cnt_append, cnt_cons, cnt_nil, id]; omega)) (fun _ => rfl) rfl rfl ?_
        intro v2 bk2 u2 hO2
        rw [← hsn] at hO2
        refine q (asg rfl) ?_
        refine enD (dBn (dSq ?_))
        refine reg ?_
        refine q (mv rfl) ?_
        refine q (by first | exact bAddi rfl rfl (by omega) | exact bAdd rfl rfl) ?_
        refine q (asg rfl) ?_
        refine enD ?_
        exact dLp (m' := M.ps.length - (i + 1)) (e' := [(2, .pointer (some ⟨b1, 0, none⟩)), (3, .pointer (some ⟨b3, 0, none⟩)), (4, .pointer (some ⟨b2, 0, none⟩)), (9, v2), (10, .int .i64 ((i + 1 : Nat) : Int))]) (by omega) (by repeat first | exact Sub.nil | refine Sub.cons rfl ?_) ⟨i + 1, v2, bk2, rfl, by omega, hO2, rfl, rfl⟩
      · have hne' : ¬ (decide (p.tok ≠ t) = true) := fun h => of_decide_eq_true h (Subtype.ext (by simpa using hne))
        rw [if_neg hne', List.append_nil] at hsn
        refine skp (dBn (dSq ?_))
        refine reg ?_
        refine q (mv rfl) ?_
        refine q (by first | exact bAddi rfl rfl (by omega) | exact bAdd rfl rfl) ?_
        refine q (asg rfl) ?_
        refine enD ?_
        have hO2 := hO
        rw [← hsn] at hO2
        rw [← hsn]
        exact dLp (m' := M.ps.length - (i + 1)) (e' := [(2, .pointer (some ⟨b1, 0, none⟩)), (3, .pointer (some ⟨b3, 0, none⟩)), (4, .pointer (some ⟨b2, 0, none⟩)), (9, _), (10, .int .i64 ((i + 1 : Nat) : Int))]) (by omega) (by repeat first | exact Sub.nil | refine Sub.cons rfl ?_) ⟨i + 1, _, bk, rfl, by omega, hO2, rfl, rfl⟩
    · rw [List.take_of_length_le (by omega)] at hO
      rw [List.take_of_length_le (l := M.ps) (by omega)]
      refine exi (dSe (dLe (dBe (dSq ?_))))
      refine seq ?_
      refine reg ?_
      refine q (mv rfl) ?_
      refine q (fa fo85_1 rfl) ?_
      refine st sz83 rfl rfl rfl (by repeat (first | exact .h | apply In.t | apply In.r)) (by first | assumption | repeat constructor) ?_
      refine en ?_
      refine seq ?_
      refine reg ?_
      refine q (ldA ag85 rfl (by first | exact mR (by assumption) | repeat (first | assumption | exact m0 | apply mS | apply mA)) (by first | assumption | repeat constructor)) ?_
      refine stA sz85 rfl rfl rfl rfl (by repeat (first | exact .h | apply In.t | apply In.r)) (by first | assumption | repeat constructor) ?_
      refine q (asg rfl) ?_
      refine en ?_
      refine ret ?_
      refine finZ bk rfl (.agg ag85 rfl (mA m0) (tkAll rfl) (.tmp rfl .nil)) rfl (fun a => by first | (simp only [cnt_append, cnt_cons, cnt_nil, id]; done) | (simp only [cnt_append, cnt_cons, cnt_nil, id]; omega)) ⟨_, rfl, ⟨_, _, rfl, hTs.mono kTen fun b o h => .inl h, hO.toR kPrn (fun _ _ h => h.elim) (fun x hx => .inr hx)⟩⟩

