import Derived.Test.YtoecfgldnlglnaaXEq
import Derived.Test.YtoecfgldnlglnaaXEo
set_option linter.unusedVariables false
set_option linter.unusedSimpArgs false
set_option maxRecDepth 20000
namespace Go.Proofs.Ytoecfgldnlglnaa
open Go Go.Wk Go.Wk.Num
theorem flQ : flatB Try.prog 5 89 = some (List.replicate 4 (.i .i64)) := by kernel_rfl
theorem quoC_ok (q : Quo) : okAll (List.replicate 4 (.i .i64)) (quoC q) = true := rfl
theorem quoC_inj (a b : Quo) (h : quoC a = quoC b) : a = b := by
  obtain ⟨a1, a2, a3, a4⟩ := a
  obtain ⟨b1, b2, b3, b4⟩ := b
  simp [quoC] at h
  simp [h]
theorem tens_none : tens CM.none.qs = [] := by decide
theorem RdT.none {R} : RdT R (.agg (List.toArray [.slice none 0 0, .slice none 0 0])) CM.none := ⟨⟨_, _, rfl, by rw [tens_none]; exact RSl.nil, RSl.nil⟩⟩
theorem wCatPlays {R v1 l} (h1 : RSl 15 (Flat actC) R v1 l) : Tri Try.prog 10 [v1] R [] fun v l' => v = .bool true ∧ l' = [] := by
  obtain ⟨pl, kl, rfl⟩ := h1.val kAct
  refine enter Try.func10 rfl rfl (by kernel_rfl) rfl fun w0 => ?_
  refine seq ?_
  refine reg ?_
  refine q (asg rfl) ?_
  refine en ?_
  refine seq ?_
  refine seq ?_
  refine reg ?_
  refine q (mv rfl) ?_
  refine q (lnL Try.underlying58 rfl) ?_
  refine q (bGtr rfl rfl) ?_
  refine en ?_
  refine ifd rfl (fun g0 => ?_) (fun g0 => ?_)
  · refine seq ?_
    refine reg ?_
    refine cl0v fb32 rfl pAwake ?_
    refine q (asg rfl) ?_
    refine en ?_
    refine ret (dSr ?_)
    exact finQ [] rfl rfl (fun a => by first | (simp only [cnt_append, cnt_cons, cnt_nil, id]; done) | (simp only [cnt_append, cnt_cons, cnt_nil, id]; omega)) ⟨rfl, rfl⟩
  · refine skp (dSq ?_)
    refine seq ?_
    refine reg ?_
    refine cl0 fb33 rfl pNew ?_
    rintro _ lc ⟨c, rfl, hC⟩
    rw [List.append_nil]
    refine q (asg rfl) ?_
    refine en ?_
    refine seq ?_
    refine reg ?_
    refine q (bd pl85 rfl .n) ?_
    refine al zr85 rfl ?_
    intro b1
    refine stA sz85 rfl rfl rfl rfl (by repeat (first | exact .h | apply In.t | apply In.r)) (by first | assumption | repeat constructor) ?_
    refine en ?_
    refine seq ?_
    refine seq ?_
    refine reg ?_
    refine q (asg rfl) ?_
    refine en ?_
    refine blk ?_
    refine cSub (e' := [(0, .slice pl l.length kl), (3, .pointer (some ⟨c, 0, none⟩)), (4, .pointer (some ⟨b1, 0, none⟩)), (5, .int .i64 (0 : Nat))]) (by repeat first | exact Sub.nil | refine Sub.cons rfl ?_) ?_
    refine loop (fun m' e l' => ∃ (i c : Nat) (M : CM) (lc lr : Bl) (pT : Option Addr) (cT : Nat) (pP : Option Addr) (cP : Nat), m' = l.length - i ∧ i ≤ l.length ∧ IsC c M lc ∧ CI M ∧ RdT (fun b o => Has R lr b o) (.agg (List.toArray [.slice pT (tens M.qs).length cT, .slice pP M.ps.length cP])) M ∧ e = [(0, .slice pl l.length kl), (3, .pointer (some ⟨c, 0, none⟩)), (4, .pointer (some ⟨b1, 0, none⟩)), (5, .int .i64 (i : Nat))] ∧ (∀ a, cnt a l' = cnt a (lc ++ ((b1, .cells (List.toArray [.slice pT (tens M.qs).length cT, .slice pP M.ps.length cP]) 85 (0, 0)) :: lr)))) l.length ⟨0, c, _, lc, [], none, 0, none, 0, rfl, by omega, hC, CI.none, by have := RdT.none (R := fun b o => Has R [] b o); rw [tens_none]; exact this, rfl, fun a => by rw [tens_none]; simp only [cnt_append, cnt_cons, cnt_nil]; show _ = _ + (0 + isB (b1, .cells (List.toArray [.slice none 0 0, .slice none 0 0]) 85 (0, 0)) a); omega⟩ ?_
    clear hC
    rintro m' _ l' ⟨i, c, M, lc, lr, pT, cT, pP, cP, rfl, hi, hC, hI, hu, rfl, hcnt⟩
    refine cPerm (permC hcnt) ?_
    refine seq ?_
    refine seq ?_
    refine reg ?_
    refine q (mv rfl) ?_
    refine q (mv rfl) ?_
    refine q (lnL Try.underlying58 rfl) ?_
    refine q (bLss rfl rfl) ?_
    refine en ?_
    refine ifd rfl (fun hlt => ?_) (fun hlt => ?_)
    · have hlt : i < l.length := by omega
      have hx := List.getElem?_eq_getElem hlt
      generalize l[i] = a at hx
      obtain ⟨b', o, cs, E, fz, vs, rfl, _, hR, rfl, hj, hTT⟩ := h1.at kAct hx
      have hA15 : Tk 0 15 (actC a) (actC a) := tkAll (actC_len a)
      have hT1 := actC_tok a
      have hT2 := actC_q a
      have hk1 : (actC a)[0 + 1]? = some (u8V a.slot) := rfl
      refine skp (dSq ?_)
      refine seq ?_
      refine blk ?_
      refine seq ?_
      refine reg ?_
      refine q (mv rfl) ?_
      refine q (mv rfl) ?_
      refine q (ia Try.underlying58 sz69 rfl rfl (by omega) (by omega)) ?_
      refine q (ldA ag69 rfl (by first | exact mR (by assumption) | repeat (first | assumption | exact m0 | apply mS | apply mA)) (by first | assumption | repeat constructor)) ?_
      refine al zr69 rfl ?_
      intro b2
      refine stA sz69 rfl rfl (actC_len a) (actC_one a) .h (upAll (by rw [actC_len]; rfl)) ?_
      refine en ?_
      refine seq ?_
      refine reg ?_
      refine q (asg rfl) ?_
      refine q (asg rfl) ?_
      refine en ?_
      refine seq ?_
      refine reg ?_
      refine q (mv rfl) ?_
      refine q (ldA ag69 rfl (by first | exact mR (by assumption) | repeat (first | assumption | exact m0 | apply mS | apply mA)) (by first | assumption | repeat constructor)) ?_
      refine clQ fb34 rfl lc ((b2, .cells (actC a).toArray 69 (0, 0)) :: (b1, .cells (List.toArray [.slice pT (tens M.qs).length cT, .slice pP M.ps.length cP]) 85 (0, 0)) :: lr) (fun a => by first | (simp only [cnt_append, cnt_cons, cnt_nil, id]; done) | (simp only [cnt_append, cnt_cons, cnt_nil, id]; omega)) (pDoes hC hI) ?_
      rintro _ lc2 ⟨c', rfl, hC2⟩
      refine q (mv rfl) ?_
      refine q (ext rfl rfl) ?_
      refine q (ext rfl rfl) ?_
      refine q (asg rfl) ?_
      refine q (asg rfl) ?_
      refine en ?_
      refine seq ?_
      refine reg ?_
      refine q (ldA ag85 rfl (by first | exact mR (by assumption) | repeat (first | assumption | exact m0 | apply mS | apply mA)) (by first | assumption | repeat constructor)) ?_
      refine q (ldA ag69 rfl (by first | exact mR (by assumption) | repeat (first | assumption | exact m0 | apply mS | apply mA)) (by first | assumption | repeat constructor)) ?_
      refine cl0 fb41 rfl ((rSaid (a := a) hu hI).weak fun b o h => h.imp id (fun h => by simp [h])) ?_
      rintro _ nw ⟨u, rfl, hu2⟩
      obtain ⟨pT', cT', pP', cP', rfl, _, _⟩ := hu2.val
      have hI2 := doAct_CI hI a
      generalize (doAct M a).2 = M2 at hC2 hu2 hI2
      have hrW : RdT (fun b o => Has R (nw ++ lr) b o) (.agg (List.toArray [.slice pT' (tens M2.qs).length cT', .slice pP' M2.ps.length cP'])) M2 := hu2.mono fun b o h => by
        rcases h with (h | h) | h
        · exact .inl h
        · exact .inr (List.mem_append_right _ h)
        · exact .inr (List.mem_append_left _ h)
      have hsub : ∀ {l2 : Bl}, (∀ x ∈ nw, x ∈ l2) → (∀ x ∈ lr, x ∈ l2) → ∀ b o, Has R (nw ++ lr) b o → Has R l2 b o := fun h3 h4 b o h => h.imp id fun h => (List.mem_append.1 h).elim (h3 _) (h4 _)
      refine q (mv rfl) ?_
      refine q (ext rfl rfl) ?_
      refine q (ext rfl rfl) ?_
      refine stA sz85 rfl rfl rfl rfl (by repeat (first | exact .h | apply In.t | apply In.r)) (by first | assumption | repeat constructor) ?_
      refine q (asg rfl) ?_
      refine en ?_
      refine seq ?_
      refine reg ?_
      refine q (mv rfl) ?_
      refine q (fa fo69_3 rfl) ?_
      refine q (ldA ag65 rfl (by first | exact mR (by assumption) | repeat (first | assumption | exact m0 | apply mS | apply mA)) (by first | assumption | repeat constructor)) ?_
      refine cl0v fb39 rfl (pWho (t := a.tok) (hC2.rd fun x hx => .inr (by simp [hx])) hI2) ?_
      refine q (mv rfl) ?_
      refine q (ext rfl rfl) ?_
      refine q (ext rfl rfl) ?_
      refine q (ext rfl rfl) ?_
      refine q (asg rfl) ?_
      refine q (asg rfl) ?_
      refine q (asg rfl) ?_
      refine en ?_
      refine seq ?_
      refine reg ?_
      refine q (ldA ag85 rfl (by first | exact mR (by assumption) | repeat (first | assumption | exact m0 | apply mS | apply mA)) (by first | assumption | repeat constructor)) ?_
      refine q (fa fo69_3 rfl) ?_
      refine q (ldA ag65 rfl (by first | exact mR (by assumption) | repeat (first | assumption | exact m0 | apply mS | apply mA)) (by first | assumption | repeat constructor)) ?_
      refine cl0v fb42 rfl (rWho (t := a.tok) (hrW.mono (hsub (fun x hx => by simp [hx]) fun x hx => by simp [hx])) hI2) ?_
      refine q (mv rfl) ?_
      refine q (ext rfl rfl) ?_
      refine q (ext rfl rfl) ?_
      refine q (ext rfl rfl) ?_
      refine q (asg rfl) ?_
      refine q (asg rfl) ?_
      refine q (asg rfl) ?_
      refine en ?_
      refine seq ?_
      refine reg ?_
      refine q (mv rfl) ?_
      refine q (fa fo69_1 rfl) ?_
      refine q (ld na5 rfl (by first | exact mR (by assumption) | repeat (first | assumption | exact m0 | apply mS | apply mA)) (by first | rfl | assumption)) ?_
      refine cl0v fb37 rfl (pQuota (s := a.slot) (hC2.rd fun x hx => .inr (by simp [hx])) hI2) ?_
      refine q (mv rfl) ?_
      refine q (ext rfl rfl) ?_
      refine q (ext rfl rfl) ?_
      refine al zr67 rfl ?_
      intro b3
      refine stA sz67 rfl rfl rfl rfl (by repeat (first | exact .h | apply In.t | apply In.r)) (by first | assumption | repeat constructor) ?_
      refine q (asg rfl) ?_
      refine en ?_
      refine seq ?_
      refine reg ?_
      refine q (ldA ag85 rfl (by first | exact mR (by assumption) | repeat (first | assumption | exact m0 | apply mS | apply mA)) (by first | assumption | repeat constructor)) ?_
      refine q (fa fo69_1 rfl) ?_
      refine q (ld na5 rfl (by first | exact mR (by assumption) | repeat (first | assumption | exact m0 | apply mS | apply mA)) (by first | rfl | assumption)) ?_
      refine cl0v fb43 rfl (rFind (s := a.slot) (hrW.mono (hsub (fun x hx => by simp [hx]) fun x hx => by simp [hx])) hI2) ?_
      refine q (mv rfl) ?_
      refine q (ext rfl rfl) ?_
      refine q (ext rfl rfl) ?_
      refine al zr89 rfl ?_
      intro b4
      refine stA sz89 rfl rfl rfl rfl (by repeat (first | exact .h | apply In.t | apply In.r)) (by first | assumption | repeat constructor) ?_
      refine q (asg rfl) ?_
      refine en ?_
      refine seq ?_
      refine drw (by kernel_rfl) ((.q, 0) :: (.q, 1) :: (.q, 2) :: (.q, 3) :: (.q, 4) :: (.q, 5) :: (.q, 6) :: (.q, 7) :: (.q, 8) :: (.q, 9) :: (.q, 10) :: (.q, 11) :: (.q, 12) :: (.q, 13) :: (.q, 14) :: (.q, 15) :: (.q, 16) :: (.q, 17) :: (.q, 18) :: (.q, 19) :: (.q, 20) :: (.q, 21) :: (.q, 22) :: (.q, 23) :: (.q, 24) :: (.q, 25) :: (.q, 26) :: (.q, 27) :: (.q, 28) :: (.q, 29) :: (.q, 30) :: (.q, 31) :: (.q, 32) :: (.q, 33) :: (.q, 34) :: (.q, 35) :: (.q, 36) :: (.q, 37) :: (.q, 38) :: []) _ rfl (by kernel_rfl) (by kernel_rfl) trivial ?_
      refine xq rfl (mv rfl) ?_
      refine xq rfl (mv rfl) ?_
      refine xq rfl (bNeq rfl rfl) ?_
      refine xq rfl (mv rfl) ?_
      refine xdecd (t := 80) rfl (fun g1 => ?_) (fun g1 => ?_)
      · exact absurd rfl g1
      · refine xgT rfl rfl rfl (mv rfl) ?_
        refine xgT rfl rfl rfl (mv rfl) ?_
        refine xgT rfl rfl rfl (bNeq rfl rfl) ?_
        refine xq rfl ((by first | exact pkT rfl rfl | exact pkF rfl rfl)) ?_
        refine xq rfl (mv rfl) ?_
        refine xdecd (t := 85) rfl (fun g2 => ?_) (fun g2 => ?_)
        · exact absurd rfl g2
        · refine xgT rfl rfl rfl (mv rfl) ?_
          refine xgT rfl rfl rfl (mv rfl) ?_
          refine xgT rfl rfl rfl (bNeq rfl rfl) ?_
          refine xq rfl ((by first | exact pkT rfl rfl | exact pkF rfl rfl)) ?_
          refine xq rfl (mv rfl) ?_
          refine xdecd (t := 90) rfl (fun g3 => ?_) (fun g3 => ?_)
          · exact absurd rfl g3
          · refine xgT rfl rfl rfl (mv rfl) ?_
            refine xgT rfl rfl rfl (mv rfl) ?_
            refine xgT rfl rfl rfl (neS rfl rfl rfl (fun w => run_eqb Try.underlying4 w)) ?_
            refine xq rfl ((by first | exact pkT rfl rfl | exact pkF rfl rfl)) ?_
            refine xq rfl (mv rfl) ?_
            refine xdec (t := 95) rfl (fun g4 => ?_) (fun g4 => ?_)
            · simp at g4
            · refine xgT rfl rfl rfl (ldA ag67 rfl (by first | exact mR (by assumption) | repeat (first | assumption | exact m0 | apply mS | apply mA)) (by first | assumption | repeat constructor)) ?_
              refine xcG rfl rfl rfl fb44 rfl (fun F => rGiven.ro) ?_
              refine xgT rfl rfl rfl (ldA ag89 rfl (by first | exact mR (by assumption) | repeat (first | assumption | exact m0 | apply mS | apply mA)) (by first | assumption | repeat constructor)) ?_
              refine xgT rfl rfl rfl (neA (r := 5) (a := (M2.quota a.slot).1) (b := (M2.quota a.slot).1) flQ (by decide) (by kernel_rfl) (by kernel_rfl) quoC_ok quoC_inj rfl rfl) ?_
              refine xq rfl ((by first | exact pkT rfl rfl | exact pkF rfl rfl)) ?_
              refine xq rfl (mv rfl) ?_
              refine xdecd (t := 101) rfl (fun g5 => ?_) (fun g5 => ?_)
              · exact absurd rfl g5
              · refine xgT rfl rfl rfl (mv rfl) ?_
                refine xgT rfl rfl rfl (mv rfl) ?_
                refine xgT rfl rfl rfl (neS rfl rfl rfl (fun w => run_eqb Try.underlying4 w)) ?_
                refine xq rfl ((by first | exact pkT rfl rfl | exact pkF rfl rfl)) ?_
                refine xq rfl (mv rfl) ?_
                refine xdec (t := 106) rfl (fun g6 => ?_) (fun g6 => ?_)
                · simp at g6
                · refine xgT rfl rfl rfl (fa fo69_4 rfl) ?_
                  refine xgT rfl rfl rfl (ldA ag67 rfl (by first | exact mR (by assumption) | repeat (first | assumption | exact m0 | apply mS | apply mA)) (by first | assumption | repeat constructor)) ?_
                  refine xcG rfl rfl rfl fb38 rfl (fun F => pRight.ro) ?_
                  refine xgT rfl rfl rfl (fa fo69_4 rfl) ?_
                  refine xgT rfl rfl rfl (ldA ag67 rfl (by first | exact mR (by assumption) | repeat (first | assumption | exact m0 | apply mS | apply mA)) (by first | assumption | repeat constructor)) ?_
                  refine xcG rfl rfl rfl fb44 rfl (fun F => rGiven.ro) ?_
                  refine xcG rfl rfl rfl fb45 rfl (fun F => rRight.ro) ?_
                  refine xgT rfl rfl rfl (neS rfl rfl rfl (fun w => run_eqb Try.underlying4 w)) ?_
                  refine xq rfl ((by first | exact pkT rfl rfl | exact pkF rfl rfl)) ?_
                  refine dSq ?_
                  refine ifb rfl (fun g7 => ?_) (fun g7 => ?_)
                  · simp at g7
                  · refine skp (dBn (dSq ?_))
                    refine reg ?_
                    refine q (mv rfl) ?_
                    refine q (by first | exact bAddi rfl rfl (by omega) | exact bAdd rfl rfl) ?_
                    refine q (asg rfl) ?_
                    refine enD ?_
                    exact dSub (lc2 ++ ((b1, .cells (List.toArray [.slice pT' (tens M2.qs).length cT', .slice pP' M2.ps.length cP']) 85 (0, 0)) :: (nw ++ lr))) (fun a => by first | (simp only [cnt_append, cnt_cons, cnt_nil, id]; done) | (simp only [cnt_append, cnt_cons, cnt_nil, id]; omega)) (dLp (m' := l.length - (i + 1)) (e' := [(0, .slice (some ⟨b', o, none⟩) l.length kl), (3, .pointer (some ⟨c', 0, none⟩)), (4, .pointer (some ⟨b1, 0, none⟩)), (5, .int .i64 ((i + 1 : Nat) : Int))]) (by omega) (by repeat first | exact Sub.nil | refine Sub.cons rfl ?_) ⟨i + 1, c', M2, lc2, _, _, _, _, _, rfl, by omega, hC2, hI2, hrW, rfl, fun a => rfl⟩)
    · refine exi (dSe (dLe (dBe (dSq ?_))))
      refine seq ?_
      refine drw (by kernel_rfl) [(.q, 0), (.q, 1), (.q, 2), (.q, 3), (.q, 4), (.q, 5), (.q, 6), (.q, 7), (.q, 8)] _ rfl (by kernel_rfl) (by kernel_rfl) trivial ?_
      refine xq rfl (mv rfl) ?_
      refine xc rfl fb35 rfl (fun F => (pWrite (hC.rd fun x hx => .inr (by simp [hx])) hI).ro) ?_
      refine xq rfl (ldA ag85 rfl (by first | exact mR (by assumption) | repeat (first | assumption | exact m0 | apply mS | apply mA)) (by first | assumption | repeat constructor)) ?_
      refine xc rfl fb46 rfl (fun F => (rWrite (hu.mono fun b o h => h.imp (fun h => .inl h) (fun h => by simp [h])) hI).ro) ?_
      refine xq rfl (sEql rfl rfl) ?_
      refine xq rfl (mv rfl) ?_
      refine xdecd (t := 121) rfl (fun g8 => ?_) (fun g8 => ?_)
      · skip
        refine xcG rfl rfl rfl fb32 rfl (fun F => pAwake.ro) ?_
        refine xq rfl ((by first | exact pkT rfl rfl | exact pkF rfl rfl)) ?_
        refine xq rfl (asg rfl) ?_
        refine dSq ?_
        refine ret ?_
        exact finQ [] rfl rfl (fun a => by first | (simp only [cnt_append, cnt_cons, cnt_nil, id]; done) | (simp only [cnt_append, cnt_cons, cnt_nil, id]; omega)) ⟨rfl, rfl⟩
      · exact absurd rfl g8

