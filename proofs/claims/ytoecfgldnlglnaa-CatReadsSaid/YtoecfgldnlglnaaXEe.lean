import Derived.Test.YtoecfgldnlglnaaXEd
set_option linter.unusedVariables false
set_option linter.unusedSimpArgs false
set_option maxRecDepth 20000
namespace Go.Proofs.Ytoecfgldnlglnaa
open Go Go.Wk Go.Wk.Num
theorem gtS (a b : ByteArray) : (!(sLt a b || decide (a = b))) = sLt b a := by
  by_cases e : a = b
  · subst e; simp [sLt_irrefl]
  · cases h : sLt a b with
    | true => simp [sLt_asymm h]
    | false => simp [e, sLt_tri h e]
theorem ins_eq (x : Prn) : ∀ ps, ins x ps = insG (fun p : Prn => tlt x.tok p.tok) x ps
  | [] => rfl
  | p :: ps => by rw [ins, insG, ins_eq x ps]
theorem rAdd {R v M s t r} (h : RdT R v M) (hI : CI M) : Tri Try.prog 87 [v, u8V s, tokV t, u8V r] R [] fun v' nw => ∃ u, v' = .tuple (List.toArray [u, u8V (M.add s t r).1]) ∧ RdT (fun b o => R b o ∨ (b, o) ∈ nw) u (M.add s t r).2 := by
  have hr0 := h
  obtain ⟨pT, cT, pP, cP, rfl, hTs, hPs⟩ := h.val
  have hTt : Tk 0 8 (tokC t) (tokC t) := tkAll (tokC_len t)
  have hlen := hI.len16'
  have hsame : ∀ code, M.add s t r = (code, M) → ∀ w, w = u8V code → ∃ u, (Value.tuple (List.toArray [.agg (List.toArray [.slice pT (tens M.qs).length cT, .slice pP M.ps.length cP]), w])) = .tuple (List.toArray [u, u8V (M.add s t r).1]) ∧ RdT (fun b o => R b o ∨ (b, o) ∈ ([] : Bl)) u (M.add s t r).2 := fun code e w hw => by
    rw [e]; exact ⟨_, by rw [hw], hr0.mono fun b o h => .inl h⟩
  have h11 : (4 ≤ s.toNat ∨ r.toNat < 1 ∨ 3 < r.toNat ∨ t = opTok) → M.add s t r = (11, M) := fun h => by unfold CM.add; rw [if_pos h]
  refine enter Try.func87 rfl rfl (by kernel_rfl) rfl fun w0 => ?_
  refine seq ?_
  refine reg ?_
  refine bx rfl rfl ?_
  intro b1
  refine bx rfl rfl ?_
  intro b2
  refine al zr85 rfl ?_
  intro b3
  refine q (asg rfl) ?_
  refine en ?_
  refine seq ?_
  refine seq ?_
  refine reg ?_
  refine q (mv rfl) ?_
  refine q (bGtr rfl rfl) ?_
  refine q (mv rfl) ?_
  refine decd (t := 22) rfl (fun h1 => ?_) (fun h1 => ?_)
  · first | refine gF rfl rfl rfl ?_ | refine gU rfl rfl ?_
    first | refine gF rfl rfl rfl ?_ | refine gU rfl rfl ?_
    refine q (by first | exact pkT rfl rfl | exact pkF rfl rfl) ?_
    refine q (mv rfl) ?_
    first | refine gF rfl rfl rfl ?_ | refine gU rfl rfl ?_
    first | refine gF rfl rfl rfl ?_ | refine gU rfl rfl ?_
    refine q (by first | exact pkT rfl rfl | exact pkF rfl rfl) ?_
    refine q (mv rfl) ?_
    first | refine gF rfl rfl rfl ?_ | refine gU rfl rfl ?_
    first | refine gF rfl rfl rfl ?_ | refine gU rfl rfl ?_
    first | refine gF rfl rfl rfl ?_ | refine gU rfl rfl ?_
    refine q (by first | exact pkT rfl rfl | exact pkF rfl rfl) ?_
    refine en ?_
    refine ifT rfl ?_
    refine seq ?_
    refine reg ?_
    refine q (ldA ag85 rfl (by first | exact mR (by assumption) | repeat (first | assumption | exact m0 | apply mS | apply mA)) (by first | assumption | repeat constructor)) ?_
    refine stA sz85 rfl rfl rfl rfl (by repeat (first | exact .h | apply In.t | apply In.r)) (by first | assumption | repeat constructor) ?_
    refine q (asg rfl) ?_
    refine en ?_
    refine ret (dSr ?_)
    exact finZ [] rfl (.agg ag85 rfl m0 (tkAll rfl) (.tmp rfl .nil)) rfl (fun a => by first | (simp only [cnt_append, cnt_cons, cnt_nil, id]; done) | (simp only [cnt_append, cnt_cons, cnt_nil, id]; omega)) (hsame 11 (h11 (by omega)) _ rfl)
  · refine gT rfl rfl ?_
    refine q (mv rfl) ?_
    refine gT rfl rfl ?_
    refine q (bLss rfl rfl) ?_
    refine q (by first | exact pkT rfl rfl | exact pkF rfl rfl) ?_
    refine q (mv rfl) ?_
    refine decd (t := 26) rfl (fun h2 => ?_) (fun h2 => ?_)
    · first | refine gF rfl rfl rfl ?_ | refine gU rfl rfl ?_
      first | refine gF rfl rfl rfl ?_ | refine gU rfl rfl ?_
      refine q (by first | exact pkT rfl rfl | exact pkF rfl rfl) ?_
      refine q (mv rfl) ?_
      first | refine gF rfl rfl rfl ?_ | refine gU rfl rfl ?_
      first | refine gF rfl rfl rfl ?_ | refine gU rfl rfl ?_
      first | refine gF rfl rfl rfl ?_ | refine gU rfl rfl ?_
      refine q (by first | exact pkT rfl rfl | exact pkF rfl rfl) ?_
      refine en ?_
      refine ifT rfl ?_
      refine seq ?_
      refine reg ?_
      refine q (ldA ag85 rfl (by first | exact mR (by assumption) | repeat (first | assumption | exact m0 | apply mS | apply mA)) (by first | assumption | repeat constructor)) ?_
      refine stA sz85 rfl rfl rfl rfl (by repeat (first | exact .h | apply In.t | apply In.r)) (by first | assumption | repeat constructor) ?_
      refine q (asg rfl) ?_
      refine en ?_
      refine ret (dSr ?_)
      exact finZ [] rfl (.agg ag85 rfl m0 (tkAll rfl) (.tmp rfl .nil)) rfl (fun a => by first | (simp only [cnt_append, cnt_cons, cnt_nil, id]; done) | (simp only [cnt_append, cnt_cons, cnt_nil, id]; omega)) (hsame 11 (h11 (by omega)) _ rfl)
    · refine gT rfl rfl ?_
      refine q (mv rfl) ?_
      refine gT rfl rfl ?_
      refine q (bGtr rfl rfl) ?_
      refine q (by first | exact pkT rfl rfl | exact pkF rfl rfl) ?_
      refine q (mv rfl) ?_
      refine decd (t := 30) rfl (fun h3 => ?_) (fun h3 => ?_)
      · first | refine gF rfl rfl rfl ?_ | refine gU rfl rfl ?_
        first | refine gF rfl rfl rfl ?_ | refine gU rfl rfl ?_
        first | refine gF rfl rfl rfl ?_ | refine gU rfl rfl ?_
        refine q (by first | exact pkT rfl rfl | exact pkF rfl rfl) ?_
        refine en ?_
        refine ifT rfl ?_
        refine seq ?_
        refine reg ?_
        refine q (ldA ag85 rfl (by first | exact mR (by assumption) | repeat (first | assumption | exact m0 | apply mS | apply mA)) (by first | assumption | repeat constructor)) ?_
        refine stA sz85 rfl rfl rfl rfl (by repeat (first | exact .h | apply In.t | apply In.r)) (by first | assumption | repeat constructor) ?_
        refine q (asg rfl) ?_
        refine en ?_
        refine ret (dSr ?_)
        exact finZ [] rfl (.agg ag85 rfl m0 (tkAll rfl) (.tmp rfl .nil)) rfl (fun a => by first | (simp only [cnt_append, cnt_cons, cnt_nil, id]; done) | (simp only [cnt_append, cnt_cons, cnt_nil, id]; omega)) (hsame 11 (h11 (by omega)) _ rfl)
      · refine gT rfl rfl ?_
        refine q (ldA ag65 rfl (by first | exact mR (by assumption) | repeat (first | assumption | exact m0 | apply mS | apply mA)) (by first | assumption | repeat constructor)) ?_
        refine gT rfl rfl ?_
        refine cl0v fb89 rfl rText ?_
        refine gT rfl rfl ?_
        refine q (sEql rfl rfl) ?_
        refine q (by first | exact pkT rfl rfl | exact pkF rfl rfl) ?_
        refine en ?_
        refine ifd rfl (fun h4 => ?_) (fun h4 => ?_)
        · refine seq ?_
          refine reg ?_
          refine q (ldA ag85 rfl (by first | exact mR (by assumption) | repeat (first | assumption | exact m0 | apply mS | apply mA)) (by first | assumption | repeat constructor)) ?_
          refine stA sz85 rfl rfl rfl rfl (by repeat (first | exact .h | apply In.t | apply In.r)) (by first | assumption | repeat constructor) ?_
          refine q (asg rfl) ?_
          refine en ?_
          refine ret (dSr ?_)
          exact finZ [] rfl (.agg ag85 rfl m0 (tkAll rfl) (.tmp rfl .nil)) rfl (fun a => by first | (simp only [cnt_append, cnt_cons, cnt_nil, id]; done) | (simp only [cnt_append, cnt_cons, cnt_nil, id]; omega)) (hsame 11 (h11 (.inr (.inr (.inr (Subtype.ext h4))))) _ rfl)
        · have hs : s.toNat < 4 := by omega
          have hok : ¬ (4 ≤ s.toNat ∨ r.toNat < 1 ∨ 3 < r.toNat ∨ t = opTok) := by
            rintro (h | h | h | h)
            · omega
            · omega
            · omega
            · exact h4 (by rw [h]; rfl)
          refine skp (dSq ?_)
          refine seq ?_
          refine reg ?_
          refine q (ldA ag85 rfl (by first | exact mR (by assumption) | repeat (first | assumption | exact m0 | apply mS | apply mA)) (by first | assumption | repeat constructor)) ?_
          refine q (mv rfl) ?_
          refine cl0v fb43 rfl (rFind (hr0.mono fun b o h => .inl h) hI) ?_
          refine q (mv rfl) ?_
          refine q (ext rfl rfl) ?_
          refine q (ext rfl rfl) ?_
          refine al zr89 rfl ?_
          intro b4
          refine stA sz89 rfl rfl rfl rfl (by repeat (first | exact .h | apply In.t | apply In.r)) (by first | assumption | repeat constructor) ?_
          refine q (asg rfl) ?_
          refine en ?_
          refine seq ?_
          refine seq ?_
          refine reg ?_
          refine q (mv rfl) ?_
          refine q (by first | exact bNotd rfl | exact bNot rfl) ?_
          refine en ?_
          refine ifb rfl (fun hq => ?_) (fun hq => ?_)
          · have ht : ¬ M.there s := fun h => by
              have hq : (!(M.quota s).2) = true := hq
              rw [(quota_there hs).2 h] at hq; cases hq
            refine seq ?_
            refine reg ?_
            refine q (ldA ag85 rfl (by first | exact mR (by assumption) | repeat (first | assumption | exact m0 | apply mS | apply mA)) (by first | assumption | repeat constructor)) ?_
            refine stA sz85 rfl rfl rfl rfl (by repeat (first | exact .h | apply In.t | apply In.r)) (by first | assumption | repeat constructor) ?_
            refine q (asg rfl) ?_
            refine en ?_
            refine ret (dSr ?_)
            exact finZ [] rfl (.agg ag85 rfl m1 (tkAll rfl) (.tmp rfl .nil)) rfl (fun a => by first | (simp only [cnt_append, cnt_cons, cnt_nil, id]; done) | (simp only [cnt_append, cnt_cons, cnt_nil, id]; omega)) (hsame 1 (by unfold CM.add; rw [if_neg hok, if_pos ht]) _ rfl)
          · have ht : ¬ ¬ M.there s := by
              have hq : (!(M.quota s).2) = false := hq
              exact not_not_intro ((quota_there hs).1 (by simpa using hq))
            refine skp (dSq ?_)
            refine seq ?_
            refine reg ?_
            refine q (ldA ag85 rfl (by first | exact mR (by assumption) | repeat (first | assumption | exact m0 | apply mS | apply mA)) (by first | assumption | repeat constructor)) ?_
            refine q (ldA ag65 rfl (by first | exact mR (by assumption) | repeat (first | assumption | exact m0 | apply mS | apply mA)) (by first | assumption | repeat constructor)) ?_
            refine cl0v fb42 rfl (rWho (hr0.mono fun b o h => .inl h) hI) ?_
            refine q (mv rfl) ?_
            refine q (ext rfl rfl) ?_
            refine q (ext rfl rfl) ?_
            refine q (ext rfl rfl) ?_
            refine q (asg rfl) ?_
            refine q (asg rfl) ?_
            refine q (asg rfl) ?_
            refine en ?_
            refine seq ?_
            refine seq ?_
            refine reg ?_
            refine q (mv rfl) ?_
            refine en ?_
            refine ifb rfl (fun hw => ?_) (fun hw => ?_)
            · have hn : (look M.ps t).isSome = true := by
                have hw : (M.who t).2.2 = true := hw
                unfold CM.who at hw
                cases hl : look M.ps t with
                | none => rw [hl] at hw; cases hw
                | some x => rfl
              refine seq ?_
              refine reg ?_
              refine q (ldA ag85 rfl (by first | exact mR (by assumption) | repeat (first | assumption | exact m0 | apply mS | apply mA)) (by first | assumption | repeat constructor)) ?_
              refine stA sz85 rfl rfl rfl rfl (by repeat (first | exact .h | apply In.t | apply In.r)) (by first | assumption | repeat constructor) ?_
              refine q (asg rfl) ?_
              refine en ?_
              refine ret (dSr ?_)
              exact finZ [] rfl (.agg ag85 rfl m1 (tkAll rfl) (.tmp rfl .nil)) rfl (fun a => by first | (simp only [cnt_append, cnt_cons, cnt_nil, id]; done) | (simp only [cnt_append, cnt_cons, cnt_nil, id]; omega)) (hsame 10 (by unfold CM.add; rw [if_neg hok, if_neg ht, if_pos hn]) _ rfl)
            · have hn : ¬ ((look M.ps t).isSome = true) := by
                have hw : (M.who t).2.2 = false := hw
                unfold CM.who at hw
                cases hl : look M.ps t with
                | none => simp
                | some x => rw [hl] at hw; cases hw
              refine skp (dSq ?_)
              refine seq ?_
              refine reg ?_
              refine q (asg rfl) ?_
              refine en ?_
              refine seq ?_
              refine reg ?_
              refine q (ldA ag65 rfl (by first | exact mR (by assumption) | repeat (first | assumption | exact m0 | apply mS | apply mA)) (by first | assumption | repeat constructor)) ?_
              refine cl0v fb89 rfl rText ?_
              refine q (mv rfl) ?_
              refine q (mv rfl) ?_
              refine q (bd pl149 rfl (.c1 rfl (by first | decide | simp) rfl (by repeat constructor) (.c1 rfl (by first | decide | simp) rfl (by repeat constructor) (.c1 rfl (by first | decide | simp) rfl (by repeat constructor) .n)))) ?_
              refine al zr149 rfl ?_
              intro b5
              refine stA sz149 rfl rfl rfl rfl (by repeat (first | exact .h | apply In.t | apply In.r)) (by first | assumption | repeat constructor) ?_
              refine en ?_
              refine seq ?_
              refine reg ?_
              refine q (asg rfl) ?_
              refine en ?_
              refine seq ?_
              refine reg ?_
              refine q (asg rfl) ?_
              refine en ?_
              refine seq ?_
              refine seq ?_
              refine reg ?_
              refine q (asg rfl) ?_
              refine en ?_
              refine blk ?_
              have hins0 := ins_eq ⟨t, s, r⟩ M.ps
              simp only at hins0
              refine cSub (e' := [(1, u8V s), (4, .pointer (some ⟨b1, 0, none⟩)), (8, .pointer (some ⟨b3, 0, none⟩)), (15, .int .i64 (0 : Nat)), (16, .pointer (some ⟨b5, 0, none⟩)), (17, .slice none 0 0), (18, .bool false), (19, .int .i64 (0 : Nat))]) (by repeat first | exact Sub.nil | refine Sub.cons rfl ?_) ?_
              refine cSubl (List.Sublist.cons_cons _ (List.sublist_cons_self _ _)) ?_
              refine loop (fun m' e l => ∃ (i : Nat) (d : Bool) (vO : Value) (out : List Prn) (bk : Bl), m' = M.ps.length - i ∧ i ≤ M.ps.length ∧ InsR (fun p : Prn => tlt t p.tok) ⟨t, s, r⟩ M.ps i d out ∧ OSl 149 3 (Flat prnR) (fun _ _ => False) vO out bk ∧ e = [(1, u8V s), (4, .pointer (some ⟨b1, 0, none⟩)), (8, .pointer (some ⟨b3, 0, none⟩)), (15, .int .i64 ((M.ps.take i).countP (·.slot = s) : Nat)), (16, .pointer (some ⟨b5, 0, none⟩)), (17, vO), (18, .bool d), (19, .int .i64 (i : Nat))] ∧ l = bk ++ [(b5, .cells (prnR ⟨t, s, r⟩).toArray 149 (0, 0)), (b3, .cells (List.toArray [.slice none 0 0, .slice none 0 0]) 85 (0, 0)), (b2, .cells (tokC t).toArray 65 (0, 0)), (b1, .cells (List.toArray [.slice pT (tens M.qs).length cT, .slice pP M.ps.length cP]) 85 (0, 0))]) M.ps.length ⟨0, false, _, [], [], rfl, by omega, .zero, OSl.nil, rfl, rfl⟩ ?_
              rintro m' _ _ ⟨i, d, vO, out, bk, rfl, hi, hins, hO, rfl, rfl⟩
              obtain ⟨pO, cO, rfl⟩ := hO.val kPrn
              have hol := hins.len hi
              have hcl : (M.ps.take i).countP (·.slot = s) ≤ 16 := by
                have h1 := List.countP_le_length (p := fun p : Prn => decide (p.slot = s)) (l := M.ps.take i)
                rw [List.length_take] at h1; omega
              refine seq ?_
              refine seq ?_
              refine reg ?_
              refine q (mv rfl) ?_
              refine q (fa fo85_1 rfl) ?_
              refine q (ld na83 rfl (by first | exact mR (by assumption) | repeat (first | assumption | exact m0 | apply mS | apply mA)) (by first | rfl | assumption)) ?_
              refine q (lnL Try.underlying83 rfl) ?_
              refine q (bLss rfl rfl) ?_
              refine en ?_
              refine ifd rfl (fun hlt => ?_) (fun hlt => ?_)
              · have hlt : i < M.ps.length := by omega
                have hx := List.getElem?_eq_getElem hlt
                generalize M.ps[i] = p at hx
                obtain ⟨b', o, cs, E, fz, vs, rfl, _, hR, rfl, hj, hTT⟩ := hPs.at kPrn hx
                have hj0 : cs[o + ((i : Nat) : Int).toNat * 3 + 0]? = some (.string p.tok.1) := hj 0 (by decide)
                have hj1 : cs[o + ((i : Nat) : Int).toNat * 3 + 1]? = some (u8V p.slot) := hj 1 (by decide)
                have hcn : (M.ps.take (i + 1)).countP (·.slot = s) = (M.ps.take i).countP (·.slot = s) + if p.slot = s then 1 else 0 := by
                  rw [tk_snoc hx, List.countP_append, List.countP_singleton]; simp
                refine skp (dSq ?_)
                refine seq ?_
                refine blk ?_
                refine seq ?_
                refine cutJ (fun e' l' => e' = [(1, u8V s), (4, .pointer (some ⟨b1, 0, none⟩)), (8, .pointer (some ⟨b3, 0, none⟩)), (15, .int .i64 ((M.ps.take (i + 1)).countP (·.slot = s) : Nat)), (16, .pointer (some ⟨b5, 0, none⟩)), (17, .slice pO out.length cO), (18, .bool d), (19, .int .i64 (i : Nat))] ∧ l' = bk ++ [(b5, .cells (prnR ⟨t, s, r⟩).toArray 149 (0, 0)), (b3, .cells (List.toArray [.slice none 0 0, .slice none 0 0]) 85 (0, 0)), (b2, .cells (tokC t).toArray 65 (0, 0)), (b1, .cells (List.toArray [.slice pT (tens M.qs).length cT, .slice (some ⟨b', o, none⟩) M.ps.length cP]) 85 (0, 0))]) ?_ ?_
                · refine seq ?_
                  refine reg ?_
                  refine q (fa fo85_1 rfl) ?_
                  refine q (ld na83 rfl (by first | exact mR (by assumption) | repeat (first | assumption | exact m0 | apply mS | apply mA)) (by first | rfl | assumption)) ?_
                  refine q (mv rfl) ?_
                  refine q (ia Try.underlying83 sz149 rfl rfl (by omega) (by omega)) ?_
                  refine q (fa fo149_1 rfl) ?_
                  refine q (ld na5 rfl (by first | exact mR (by assumption) | repeat (first | assumption | exact m0 | apply mS | apply mA)) (by first | rfl | assumption)) ?_
                  refine q (mv rfl) ?_
                  refine q (bEql rfl rfl) ?_
                  refine en ?_
                  refine ifd rfl (fun he => ?_) (fun he => ?_)
                  · refine reg ?_
                    refine q (mv rfl) ?_
                    refine q (by first | exact bAddi rfl rfl (by omega) | exact bAdd rfl rfl) ?_
                    refine q (asg rfl) ?_
                    refine enD ?_
                    rw [if_pos (u8eq.1 he)] at hcn
                    exact dJ (by rw [hcn]; exact (by repeat first | exact Sub.nil | refine Sub.cons rfl ?_)) ⟨rfl, rfl⟩
                  · refine skp ?_
                    rw [if_neg (fun h => he (u8eq.2 h)), Nat.add_zero] at hcn
                    exact dJ (by rw [hcn]; exact (by repeat first | exact Sub.nil | refine Sub.cons rfl ?_)) ⟨rfl, rfl⟩
                · rintro _ _ ⟨rfl, rfl⟩
                  refine seq ?_
                  refine cutJ (fun e' l' => ∃ (d' : Bool) (vO' : Value) (out' : List Prn) (bk' : Bl), InsM (fun p : Prn => tlt t p.tok) ⟨t, s, r⟩ M.ps i d' out' ∧ OSl 149 3 (Flat prnR) (fun _ _ => False) vO' out' bk' ∧ e' = [(1, u8V s), (4, .pointer (some ⟨b1, 0, none⟩)), (8, .pointer (some ⟨b3, 0, none⟩)), (15, .int .i64 ((M.ps.take (i + 1)).countP (·.slot = s) : Nat)), (16, .pointer (some ⟨b5, 0, none⟩)), (17, vO'), (18, .bool d'), (19, .int .i64 (i : Nat))] ∧ l' = bk' ++ [(b5, .cells (prnR ⟨t, s, r⟩).toArray 149 (0, 0)), (b3, .cells (List.toArray [.slice none 0 0, .slice none 0 0]) 85 (0, 0)), (b2, .cells (tokC t).toArray 65 (0, 0)), (b1, .cells (List.toArray [.slice pT (tens M.qs).length cT, .slice (some ⟨b', o, none⟩) M.ps.length cP]) 85 (0, 0))]) ?_ ?_
                  · refine seq ?_
                    refine drw (by kernel_rfl) [(.q, 0), (.q, 1), (.q, 2), (.q, 3), (.q, 4), (.q, 5), (.q, 6), (.q, 7), (.q, 8), (.q, 9), (.q, 10), (.q, 11), (.q, 12)] _ rfl (by kernel_rfl) (by kernel_rfl) trivial ?_
                    refine xq rfl (mv rfl) ?_
                    refine xq rfl ((by first | exact bNotd rfl | exact bNot rfl)) ?_
                    refine xq rfl (mv rfl) ?_
                    refine xdec (t := 78) rfl (fun hd => ?_) (fun hd => ?_)
                    · have hd : d = false := by simpa using hd
                      subst hd
                      refine xgT rfl rfl rfl (fa fo85_1 rfl) ?_
                      refine xgT rfl rfl rfl (ld na83 rfl (by first | exact mR (by assumption) | repeat (first | assumption | exact m0 | apply mS | apply mA)) (by first | rfl | assumption)) ?_
                      refine xgT rfl rfl rfl (mv rfl) ?_
                      refine xgT rfl rfl rfl (ia Try.underlying83 sz149 rfl rfl (by omega) (by omega)) ?_
                      refine xgT rfl rfl rfl (fa fo149_0 rfl) ?_
                      refine xgT rfl rfl rfl (ld na9 rfl (by first | exact mR (by assumption) | repeat (first | assumption | exact m0 | apply mS | apply mA)) (by first | rfl | assumption)) ?_
                      refine xgT rfl rfl rfl (fa fo149_0 rfl) ?_
                      refine xgT rfl rfl rfl (ld na9 rfl (by first | exact mR (by assumption) | repeat (first | assumption | exact m0 | apply mS | apply mA)) (by first | rfl | assumption)) ?_
                      refine xgT rfl rfl rfl (sGtr rfl rfl) ?_
                      refine xq rfl ((by first | exact pkT rfl rfl | exact pkF rfl rfl)) ?_
                      refine dSq ?_
                      rw [gtS]
                      refine ifb rfl (fun hg => ?_) (fun hg => ?_)
                      · refine seq ?_
                        refine reg ?_
                        refine q (mv rfl) ?_
                        refine q (ldA ag149 rfl (by first | exact mR (by assumption) | repeat (first | assumption | exact m0 | apply mS | apply mA)) (by first | assumption | repeat constructor)) ?_
                        refine apO (l2 := [(b5, .cells (prnR ⟨t, s, r⟩).toArray 149 (0, 0)), (b3, .cells (List.toArray [.slice none 0 0, .slice none 0 0]) 85 (0, 0)), (b2, .cells (tokC t).toArray 65 (0, 0)), (b1, .cells (List.toArray [.slice pT (tens M.qs).length cT, .slice (some ⟨b', o, none⟩) M.ps.length cP]) 85 (0, 0))]) Try.underlying83 in149 rfl kPrn hO (a := ⟨t, s, r⟩) rfl (by omega) (by omega) (by decide) (fun a => by first | (simp only [cnt_append, cnt_cons, cnt_nil, id]; done) | (simp only [cnt_append, cnt_cons, cnt_nil, id]; omega)) (fun _ => rfl) rfl rfl ?_
                        intro v2 bk2 u2 hO2
                        refine q (asg rfl) ?_
                        refine en ?_
                        refine reg ?_
                        refine q (asg rfl) ?_
                        refine enD ?_
                        exact dJ (by repeat first | exact Sub.nil | refine Sub.cons rfl ?_) ⟨true, v2, _, bk2, hins.ins hx hg, hO2, rfl, rfl⟩
                      · refine skp ?_
                        exact dJ (by repeat first | exact Sub.nil | refine Sub.cons rfl ?_) ⟨false, _, _, bk, hins.not hx (fun _ => hg), hO, rfl, rfl⟩
                    · have hd : d = true := by simpa using hd
                      subst hd
                      first | refine xgF rfl rfl rfl rfl ?_ | refine xgU rfl rfl rfl ?_
                      first | refine xgF rfl rfl rfl rfl ?_ | refine xgU rfl rfl rfl ?_
                      first | refine xgF rfl rfl rfl rfl ?_ | refine xgU rfl rfl rfl ?_
                      first | refine xgF rfl rfl rfl rfl ?_ | refine xgU rfl rfl rfl ?_
                      first | refine xgF rfl rfl rfl rfl ?_ | refine xgU rfl rfl rfl ?_
                      first | refine xgF rfl rfl rfl rfl ?_ | refine xgU rfl rfl rfl ?_
                      first | refine xgF rfl rfl rfl rfl ?_ | refine xgU rfl rfl rfl ?_
                      first | refine xgF rfl rfl rfl rfl ?_ | refine xgU rfl rfl rfl ?_
                      first | refine xgF rfl rfl rfl rfl ?_ | refine xgU rfl rfl rfl ?_
                      refine xq rfl ((by first | exact pkT rfl rfl | exact pkF rfl rfl)) ?_
                      refine dSq ?_
                      refine ifF rfl ?_
                      refine skp ?_
                      exact dJ (by repeat first | exact Sub.nil | refine Sub.cons rfl ?_) ⟨true, _, _, bk, hins.not hx (fun h => by cases h), hO, rfl, rfl⟩
                  · rintro _ _ ⟨d', vO', out', bk', hins', hO', rfl, rfl⟩
                    obtain ⟨pO', cO', rfl⟩ := hO'.val kPrn
                    have hol' := hins'.len hi
                    refine reg ?_
                    refine q (mv rfl) ?_
                    refine q (fa fo85_1 rfl) ?_
                    refine q (ld na83 rfl (by first | exact mR (by assumption) | repeat (first | assumption | exact m0 | apply mS | apply mA)) (by first | rfl | assumption)) ?_
                    refine q (mv rfl) ?_
                    refine q (ia Try.underlying83 sz149 rfl rfl (by omega) (by omega)) ?_
                    refine q (ldA ag149 rfl (by first | exact mR (by assumption) | repeat (first | assumption | exact m0 | apply mS | apply mA)) (by first | assumption | repeat constructor)) ?_
                    refine apO (l2 := [(b5, .cells (prnR ⟨t, s, r⟩).toArray 149 (0, 0)), (b3, .cells (List.toArray [.slice none 0 0, .slice none 0 0]) 85 (0, 0)), (b2, .cells (tokC t).toArray 65 (0, 0)), (b1, .cells (List.toArray [.slice pT (tens M.qs).length cT, .slice (some ⟨b', o, none⟩) M.ps.length cP]) 85 (0, 0))]) Try.underlying83 in149 rfl kPrn hO' (a := p) rfl (by omega) (by omega) (by decide) (fun a => by first | (simp only [cnt_append, cnt_cons, cnt_nil, id]; done) | (simp only [cnt_append, cnt_cons, cnt_nil, id]; omega)) (fun _ => rfl) rfl rfl ?_
                    intro v2 bk2 u2 hO2
                    refine q (asg rfl) ?_
                    refine enD (dBn (dSq ?_))
                    refine reg ?_
                    refine q (mv rfl) ?_
                    refine q (by first | exact bAddi rfl rfl (by omega) | exact bAdd rfl rfl) ?_
                    refine q (asg rfl) ?_
                    refine enD ?_
                    exact dLp (m' := M.ps.length - (i + 1)) (e' := [(1, u8V s), (4, .pointer (some ⟨b1, 0, none⟩)), (8, .pointer (some ⟨b3, 0, none⟩)), (15, .int .i64 ((M.ps.take (i + 1)).countP (·.slot = s) : Nat)), (16, .pointer (some ⟨b5, 0, none⟩)), (17, v2), (18, .bool d'), (19, .int .i64 ((i + 1 : Nat) : Int))]) (by omega) (by repeat first | exact Sub.nil | refine Sub.cons rfl ?_) ⟨i + 1, d', v2, out' ++ [p], bk2, rfl, by omega, hins'.next hx, hO2, rfl, rfl⟩
              · have hil : i = M.ps.length := by omega
                subst hil
                rw [List.take_length] at hcl ⊢
                have hmany : M.ps.countP (·.slot = s) = M.many s := rfl
                rw [hmany]
                refine exi (dSe (dLe (dBe (dSq ?_))))
                refine seq ?_
                refine cutJ (fun e' l' => ∃ (vO' : Value) (bk' : Bl), OSl 149 3 (Flat prnR) (fun _ _ => False) vO' (ins ⟨t, s, r⟩ M.ps) bk' ∧ e' = [(4, .pointer (some ⟨b1, 0, none⟩)), (8, .pointer (some ⟨b3, 0, none⟩)), (15, .int .i64 (M.many s : Nat)), (17, vO')] ∧ l' = bk' ++ [(b5, .cells (prnR ⟨t, s, r⟩).toArray 149 (0, 0)), (b3, .cells (List.toArray [.slice none 0 0, .slice none 0 0]) 85 (0, 0)), (b2, .cells (tokC t).toArray 65 (0, 0)), (b1, .cells (List.toArray [.slice pT (tens M.qs).length cT, .slice pP M.ps.length cP]) 85 (0, 0))]) ?_ ?_
                · refine seq ?_
                  refine reg ?_
                  refine q (mv rfl) ?_
                  refine q (by first | exact bNotd rfl | exact bNot rfl) ?_
                  refine en ?_
                  refine ifb rfl (fun hd => ?_) (fun hd => ?_)
                  · have hd : d = false := by simpa using hd
                    subst hd
                    refine reg ?_
                    refine q (mv rfl) ?_
                    refine q (ldA ag149 rfl (by first | exact mR (by assumption) | repeat (first | assumption | exact m0 | apply mS | apply mA)) (by first | assumption | repeat constructor)) ?_
                    refine apO (l2 := [(b5, .cells (prnR ⟨t, s, r⟩).toArray 149 (0, 0)), (b3, .cells (List.toArray [.slice none 0 0, .slice none 0 0]) 85 (0, 0)), (b2, .cells (tokC t).toArray 65 (0, 0)), (b1, .cells (List.toArray [.slice pT (tens M.qs).length cT, .slice pP M.ps.length cP]) 85 (0, 0))]) Try.underlying83 in149 rfl kPrn hO (a := ⟨t, s, r⟩) rfl (by omega) (by omega) (by decide) (fun a => by first | (simp only [cnt_append, cnt_cons, cnt_nil, id]; done) | (simp only [cnt_append, cnt_cons, cnt_nil, id]; omega)) (fun _ => rfl) rfl rfl ?_
                    intro v2 bk2 u2 hO2
                    rw [hins.endF, ← hins0] at hO2
                    refine q (asg rfl) ?_
                    refine enD ?_
                    exact dJ (by repeat first | exact Sub.nil | refine Sub.cons rfl ?_) ⟨v2, bk2, hO2, rfl, rfl⟩
                  · have hd : d = true := by simpa using hd
                    subst hd
                    have eo := hins.endT.trans hins0.symm
                    subst eo
                    refine skp ?_
                    exact dJ (by repeat first | exact Sub.nil | refine Sub.cons rfl ?_) ⟨_, bk, hO, rfl, rfl⟩
                · rintro _ _ ⟨vO', bk', hO', rfl, rfl⟩
                  obtain ⟨pO', cO', rfl⟩ := hO'.val kPrn
                  refine seq ?_
                  refine seq ?_
                  refine reg ?_
                  refine q (mv rfl) ?_
                  refine q (bGeq rfl rfl) ?_
                  refine en ?_
                  refine ifd rfl (fun hm4 => ?_) (fun hm4 => ?_)
                  · refine seq ?_
                    refine reg ?_
                    refine q (ldA ag85 rfl (by first | exact mR (by assumption) | repeat (first | assumption | exact m0 | apply mS | apply mA)) (by first | assumption | repeat constructor)) ?_
                    refine stA sz85 rfl rfl rfl rfl (by repeat (first | exact .h | apply In.t | apply In.r)) (by first | assumption | repeat constructor) ?_
                    refine q (asg rfl) ?_
                    refine en ?_
                    refine ret (dSr ?_)
                    exact finZ [] rfl (.agg ag85 rfl (mA (by repeat (first | exact m0 | apply mS))) (tkAll rfl) (.tmp rfl .nil)) rfl (fun a => by first | (simp only [cnt_append, cnt_cons, cnt_nil, id]; done) | (simp only [cnt_append, cnt_cons, cnt_nil, id]; omega)) (hsame 9 (by unfold CM.add; rw [if_neg hok, if_neg ht, if_neg hn, if_pos (by omega)]) _ rfl)
                  · have e : M.add s t r = (0, { M with ps := ins ⟨t, s, r⟩ M.ps }) := by unfold CM.add; rw [if_neg hok, if_neg ht, if_neg hn, if_neg (by omega)]
                    rw [e]
                    refine skp (dSq ?_)
                    refine seq ?_
                    refine reg ?_
                    refine q (mv rfl) ?_
                    refine q (fa fo85_1 rfl) ?_
                    refine st sz83 rfl rfl rfl (by repeat (first | exact .h | apply In.t | apply In.r)) (by first | assumption | repeat constructor) ?_
                    refine en ?_
                    refine seq ?_
                    refine reg ?_
                    refine q (ldA ag85 rfl (by first | exact mR (by assumption) | repeat (first | assumption | exact m0 | apply mS | apply mA)) (by first | assumption | repeat constructor)) ?_
                    refine stA sz85 rfl rfl rfl rfl (by repeat (first | exact .h | apply In.t | apply In.r)) (by first | assumption | repeat constructor) ?_
                    refine q (asg rfl) ?_
                    refine en ?_
                    refine ret ?_
                    exact finZ bk' rfl (.agg ag85 rfl (mA (by repeat (first | exact m0 | apply mS))) (tkAll rfl) (.tmp rfl .nil)) rfl (fun a => by first | (simp only [cnt_append, cnt_cons, cnt_nil, id]; done) | (simp only [cnt_append, cnt_cons, cnt_nil, id]; omega)) ⟨_, rfl, ⟨_, _, rfl, hTs.mono kTen fun b o h => .inl h, hO'.toR kPrn (fun _ _ h => h.elim) (fun x hx => .inr hx)⟩⟩

