import Derived.Test.YtoecfgldnlglnaaXCq
set_option linter.unusedVariables false
set_option linter.unusedSimpArgs false
set_option maxRecDepth 20000
namespace Go.Proofs.Ytoecfgldnlglnaa
open Go Go.Wk Go.Wk.Num
theorem countP_four {α : Type} (f : α → UInt8) : ∀ (l : List α), (∀ x ∈ l, (f x).toNat < 4) → l.length = l.countP (fun x => f x = 0) + l.countP (fun x => f x = 1) + l.countP (fun x => f x = 2) + l.countP (fun x => f x = 3)
  | [], _ => rfl
  | x :: l, h => by
    have ih := countP_four f l fun y hy => h y (List.mem_cons_of_mem _ hy)
    rw [List.length_cons, List.countP_cons, List.countP_cons, List.countP_cons, List.countP_cons, ih]
    rcases u8lt4 (h x (List.mem_cons_self ..)) with e | e | e | e <;> simp [e] <;> omega
theorem CI.len16' {M : CM} (hI : CI M) : M.ps.length ≤ 16 := by
  have h1 := countP_four (fun p : Prn => p.slot) M.ps fun p hp => (hI.p p hp).1
  have h2 := hI.many 0
  have h3 := hI.many 1
  have h4 := hI.many 2
  have h5 := hI.many 3
  unfold CM.many at h2 h3 h4 h5
  omega
theorem CI.len16 {M : CM} (hI : CI M) : M.ps.length ≤ 1000 := Nat.le_trans hI.len16' (by decide)
theorem pOp {R} : Tri Try.prog 40 [] R [] fun v l' => v = tokV opTok ∧ l' = [] := by
  refine enter Try.func40 rfl rfl (by kernel_rfl) rfl fun w0 => ?_
  refine seq ?_
  refine reg ?_
  refine al zr65 rfl ?_
  intro b1
  refine en ?_
  refine seq ?_
  refine reg ?_
  refine al zr65 rfl ?_
  intro b2
  refine en ?_
  refine seq ?_
  refine reg ?_
  refine q (slA (L := 0) (H := 8) Try.underlying65 sz5 rfl rfl rfl (by omega) (by omega) (by omega)) ?_
  refine eo (eCpS (s := [111, 112, 101, 114, 97, 116, 111, 114]) Try.underlying136 sz5 rfl rfl .h (by repeat constructor)) ?_
  rintro _ _ ⟨rfl, rfl⟩
  refine en ?_
  refine seq ?_
  refine reg ?_
  refine q (ldA ag65 rfl (by first | exact mR (by assumption) | repeat (first | assumption | exact m0 | apply mS | apply mA)) (by first | assumption | repeat constructor)) ?_
  refine stA sz65 rfl rfl rfl rfl (by repeat (first | exact .h | apply In.t | apply In.r)) (by first | assumption | repeat constructor) ?_
  refine en ?_
  refine ret ?_
  exact finZ [] rfl (.agg ag65 rfl m1 (tkAll rfl) .nil) rfl (fun a => by first | (simp only [cnt_append, cnt_cons, cnt_nil, id]; done) | (simp only [cnt_append, cnt_cons, cnt_nil, id]; omega)) ⟨rfl, rfl⟩
theorem pDrop {R c M t l} (hC : IsC c M l) (hI : CI M) : Tri Try.prog 74 [(.pointer (some ⟨c, 0, none⟩)), tokV t] R l fun v l' => v = u8V (M.drop t).1 ∧ IsC c (M.drop t).2 l' := by
  have hT : Tk 0 8 (tokC t) (tokC t) := tkAll (tokC_len t)
  refine enter Try.func74 rfl rfl (by kernel_rfl) rfl fun w0 => ?_
  refine seq ?_
  refine reg ?_
  refine bx rfl rfl fun b1 => ?_
  refine q (asg rfl) ?_
  refine en ?_
  refine seq ?_
  refine seq ?_
  refine reg ?_
  refine q (mv rfl) ?_
  refine cl0v fb75 rfl (pNone (hC.rd fun x hx => mS (.inr hx)) hI) ?_
  refine en ?_
  obtain ⟨m, kv, ck, rfl, hk⟩ := hC
  have h16 : (catC M.qs m)[0 + 16]? = some (.map (some m)) := catC_map hI.len
  have hsome : (getK kv t).isSome = (look M.ps t).isSome := by rw [hk.get, Option.isSome_map]
  obtain ⟨p, hp⟩ : ∃ p, (getK kv t).getD (.agg (List.toArray [.int .u8 0, .int .u8 0])) = .agg (prnC p).toArray := by
    rw [hk.get]; cases look M.ps t with
    | none => exact ⟨(0, 0), rfl⟩
    | some x => exact ⟨x, rfl⟩
  refine ifF rfl ?_
  refine skp (dSq ?_)
  refine seq ?_
  refine seq ?_
  refine drw (by kernel_rfl) [(.q, 0), (.q, 1), (.q, 2), (.q, 3), (.q, 4), (.q, 5), (.q, 6), (.q, 7), (.p, 8), (.a, 9), (.s, 10), (.q, 11)] _ rfl (by kernel_rfl) (by kernel_rfl) ⟨alF rfl zr134 rfl, trivial⟩ ?_
  refine xq rfl (mv rfl) ?_
  refine xq rfl (nck rfl) ?_
  refine xq rfl (fa fo123_1 rfl) ?_
  refine xq rfl (ld na120 rfl (by first | exact mR (by assumption) | repeat (first | assumption | exact m0 | apply mS | apply mA)) (by first | rfl | assumption)) ?_
  refine xq rfl (ldA ag65 rfl (by first | exact mR (by assumption) | repeat (first | assumption | exact m0 | apply mS | apply mA)) (by first | assumption | repeat constructor)) ?_
  refine xq rfl ((lko Try.underlying120 tokKey zr134 rfl rfl m2).to (by rw [hsome, hp])) ?_
  refine xq rfl (mv rfl) ?_
  refine xq rfl (ext rfl rfl) ?_
  refine xp rfl (ext rfl rfl) ?_
  refine xa rfl zr134 rfl ?_
  intro b1
  refine xs rfl (eStA sz134 rfl rfl rfl rfl (by repeat (first | exact .h | apply In.t | apply In.r)) (by first | assumption | repeat constructor)) ?_
  rintro _ _ rfl
  refine xq rfl (asg rfl) ?_
  refine dSq ?_
  refine seq ?_
  refine reg ?_
  refine q (mv rfl) ?_
  refine q (by first | exact bNotd rfl | exact bNot rfl) ?_
  refine en ?_
  refine ifb rfl (fun hb => ?_) (fun hb => ?_)
  · refine seq ?_
    refine reg ?_
    refine q (asg rfl) ?_
    refine en ?_
    refine ret (dSr ?_)
    have hb : (look M.ps t).isSome = false := by
      have : (!(look M.ps t).isSome) = true := hb
      simpa using this
    have e : M.drop t = (1, M) := by unfold CM.drop; rw [if_neg (by rw [hb]; decide)]
    rw [e]
    exact finQ [(c, .cells (List.toArray (catC M.qs m)) 123 (0, 0)), (m, .map (ents tokV kv) ck)] rfl rfl (fun a => by first | (simp only [cnt_append, cnt_cons, cnt_nil, id]; done) | (simp only [cnt_append, cnt_cons, cnt_nil, id]; omega)) ⟨rfl, ⟨m, kv, ck, rfl, hk⟩⟩
  · refine skp (dSq ?_)
    refine seq ?_
    refine drw (by kernel_rfl) [(.q, 0), (.q, 1), (.q, 2), (.q, 3), (.q, 4), (.s, 5)] _ rfl (by kernel_rfl) (by kernel_rfl) trivial ?_
    refine xq rfl (mv rfl) ?_
    refine xq rfl (nck rfl) ?_
    refine xq rfl (fa fo123_1 rfl) ?_
    refine xq rfl (ld na120 rfl (by first | exact mR (by assumption) | repeat (first | assumption | exact m0 | apply mS | apply mA)) (by first | rfl | assumption)) ?_
    refine xq rfl (ldA ag65 rfl (by first | exact mR (by assumption) | repeat (first | assumption | exact m0 | apply mS | apply mA)) (by first | assumption | repeat constructor)) ?_
    have hb : (look M.ps t).isSome = true := by
      have : (!(look M.ps t).isSome) = false := hb
      simpa using this
    have e : M.drop t = (0, { M with ps := M.ps.filter (·.tok ≠ t) }) := by unfold CM.drop; rw [if_pos hb]
    rw [e]
    refine xs rfl (eDl Try.underlying120 tokKey rfl rfl (by repeat (first | exact .h | apply In.t | apply In.r))) ?_
    rintro _ _ rfl
    refine dSq ?_
    refine seq ?_
    refine reg ?_
    refine q (asg rfl) ?_
    refine en ?_
    refine ret ?_
    refine finQ [(c, .cells (List.toArray (catC M.qs m)) 123 (0, 0)), (m, .map (ents tokV (delK kv t)) ck)] rfl rfl (fun a => by first | (simp only [cnt_append, cnt_cons, cnt_nil, id]; done) | (simp only [cnt_append, cnt_cons, cnt_nil, id]; omega)) ⟨rfl, ⟨m, _, _, rfl, hk.ok.del t, fun u => ?_⟩⟩
    rw [getK_del hk.ok.keys, look_filter_tok, hk.get]
    by_cases hu : u = t
    · rw [if_pos hu, if_pos hu]; rfl
    · rw [if_neg hu, if_neg hu]
theorem pPrincipal {R c M s t r l} (hC : IsC c M l) (hI : CI M) : Tri Try.prog 71 [(.pointer (some ⟨c, 0, none⟩)), u8V s, tokV t, u8V r] R l fun v l' => v = u8V (M.add s t r).1 ∧ IsC c (M.add s t r).2 l' := by
  have hT : Tk 0 8 (tokC t) (tokC t) := tkAll (tokC_len t)
  have hno : ∀ p, (4 ≤ s.toNat ∨ r.toNat < 1 ∨ 3 < r.toNat ∨ t = opTok) → p = u8V (11 : UInt8) → p = u8V (M.add s t r).1 ∧ (M.add s t r).2 = M := fun p h1 h2 => by
    have e : M.add s t r = (11, M) := by unfold CM.add; rw [if_pos h1]
    rw [e]; exact ⟨h2, rfl⟩
  refine enter Try.func71 rfl rfl (by kernel_rfl) rfl fun w0 => ?_
  refine seq ?_
  refine reg ?_
  refine bx rfl rfl fun b1 => ?_
  refine q (asg rfl) ?_
  refine en ?_
  refine seq ?_
  refine blk ?_
  refine seq ?_
  refine reg ?_
  refine q (mv rfl) ?_
  refine cl0v fb75 rfl (pNone (hC.rd fun x hx => mS (.inr hx)) hI) ?_
  refine q (asg rfl) ?_
  refine en ?_
  refine ifF rfl ?_
  refine seq ?_
  refine drw (by kernel_rfl) [(.q, 0), (.q, 1), (.q, 2), (.q, 3), (.q, 4), (.q, 5), (.q, 6), (.q, 7), (.q, 8), (.q, 9), (.q, 10), (.q, 11), (.q, 12), (.q, 13), (.q, 14), (.q, 15)] _ rfl (by kernel_rfl) (by kernel_rfl) trivial ?_
  refine xq rfl (mv rfl) ?_
  refine xq rfl (bGeq rfl rfl) ?_
  refine xq rfl (mv rfl) ?_
  refine xdecd (t := 17) rfl (fun h1 => ?_) (fun h1 => ?_)
  · first | refine xgF rfl rfl rfl rfl ?_ | refine xgU rfl rfl rfl ?_
    first | refine xgF rfl rfl rfl rfl ?_ | refine xgU rfl rfl rfl ?_
    refine xq rfl ((by first | exact pkT rfl rfl | exact pkF rfl rfl)) ?_
    refine xq rfl (mv rfl) ?_
    first | refine xgF rfl rfl rfl rfl ?_ | refine xgU rfl rfl rfl ?_
    first | refine xgF rfl rfl rfl rfl ?_ | refine xgU rfl rfl rfl ?_
    refine xq rfl ((by first | exact pkT rfl rfl | exact pkF rfl rfl)) ?_
    refine xq rfl (mv rfl) ?_
    first | refine xgF rfl rfl rfl rfl ?_ | refine xgU rfl rfl rfl ?_
    first | refine xgF rfl rfl rfl rfl ?_ | refine xgU rfl rfl rfl ?_
    first | refine xgF rfl rfl rfl rfl ?_ | refine xgU rfl rfl rfl ?_
    refine xq rfl ((by first | exact pkT rfl rfl | exact pkF rfl rfl)) ?_
    refine xq rfl (asg rfl) ?_
    refine dSq ?_
    refine ifT rfl ?_
    refine seq ?_
    refine reg ?_
    refine q (asg rfl) ?_
    refine en ?_
    refine ret (dBr (dSr ?_))
    obtain ⟨n1, n2⟩ := hno (.int .u8 11) (by omega) rfl
    exact finQ l rfl rfl (fun a => by first | (simp only [cnt_append, cnt_cons, cnt_nil, id]; done) | (simp only [cnt_append, cnt_cons, cnt_nil, id]; omega)) ⟨n1, by rw [n2]; exact hC⟩
  · refine xgT rfl rfl rfl (mv rfl) ?_
    refine xgT rfl rfl rfl (bLss rfl rfl) ?_
    refine xq rfl ((by first | exact pkT rfl rfl | exact pkF rfl rfl)) ?_
    refine xq rfl (mv rfl) ?_
    refine xdecd (t := 21) rfl (fun h2 => ?_) (fun h2 => ?_)
    · first | refine xgF rfl rfl rfl rfl ?_ | refine xgU rfl rfl rfl ?_
      first | refine xgF rfl rfl rfl rfl ?_ | refine xgU rfl rfl rfl ?_
      refine xq rfl ((by first | exact pkT rfl rfl | exact pkF rfl rfl)) ?_
      refine xq rfl (mv rfl) ?_
      first | refine xgF rfl rfl rfl rfl ?_ | refine xgU rfl rfl rfl ?_
      first | refine xgF rfl rfl rfl rfl ?_ | refine xgU rfl rfl rfl ?_
      first | refine xgF rfl rfl rfl rfl ?_ | refine xgU rfl rfl rfl ?_
      refine xq rfl ((by first | exact pkT rfl rfl | exact pkF rfl rfl)) ?_
      refine xq rfl (asg rfl) ?_
      refine dSq ?_
      refine ifT rfl ?_
      refine seq ?_
      refine reg ?_
      refine q (asg rfl) ?_
      refine en ?_
      refine ret (dBr (dSr ?_))
      obtain ⟨n1, n2⟩ := hno (.int .u8 11) (by omega) rfl
      exact finQ l rfl rfl (fun a => by first | (simp only [cnt_append, cnt_cons, cnt_nil, id]; done) | (simp only [cnt_append, cnt_cons, cnt_nil, id]; omega)) ⟨n1, by rw [n2]; exact hC⟩
    · refine xgT rfl rfl rfl (mv rfl) ?_
      refine xgT rfl rfl rfl (bGtr rfl rfl) ?_
      refine xq rfl ((by first | exact pkT rfl rfl | exact pkF rfl rfl)) ?_
      refine xq rfl (mv rfl) ?_
      refine xdecd (t := 25) rfl (fun h3 => ?_) (fun h3 => ?_)
      · first | refine xgF rfl rfl rfl rfl ?_ | refine xgU rfl rfl rfl ?_
        first | refine xgF rfl rfl rfl rfl ?_ | refine xgU rfl rfl rfl ?_
        first | refine xgF rfl rfl rfl rfl ?_ | refine xgU rfl rfl rfl ?_
        refine xq rfl ((by first | exact pkT rfl rfl | exact pkF rfl rfl)) ?_
        refine xq rfl (asg rfl) ?_
        refine dSq ?_
        refine ifT rfl ?_
        refine seq ?_
        refine reg ?_
        refine q (asg rfl) ?_
        refine en ?_
        refine ret (dBr (dSr ?_))
        obtain ⟨n1, n2⟩ := hno (.int .u8 11) (by omega) rfl
        exact finQ l rfl rfl (fun a => by first | (simp only [cnt_append, cnt_cons, cnt_nil, id]; done) | (simp only [cnt_append, cnt_cons, cnt_nil, id]; omega)) ⟨n1, by rw [n2]; exact hC⟩
      · refine xgT rfl rfl rfl (ldA ag65 rfl (by first | exact mR (by assumption) | repeat (first | assumption | exact m0 | apply mS | apply mA)) (by first | assumption | repeat constructor)) ?_
        refine xcG rfl rfl rfl fb40 rfl (fun F => pOp.ro) ?_
        refine xgT rfl rfl rfl (eqA (r := 5) fl65 (by decide) (by kernel_rfl) (by kernel_rfl) tokC_ok tokC_inj rfl rfl) ?_
        refine xq rfl ((by first | exact pkT rfl rfl | exact pkF rfl rfl)) ?_
        refine xq rfl (asg rfl) ?_
        refine dSq ?_
        refine ifd rfl (fun h4 => ?_) (fun h4 => ?_)
        · refine seq ?_
          refine reg ?_
          refine q (asg rfl) ?_
          refine en ?_
          refine ret (dBr (dSr ?_))
          obtain ⟨n1, n2⟩ := hno (.int .u8 11) (.inr (.inr (.inr h4))) rfl
          exact finQ l rfl rfl (fun a => by first | (simp only [cnt_append, cnt_cons, cnt_nil, id]; done) | (simp only [cnt_append, cnt_cons, cnt_nil, id]; omega)) ⟨n1, by rw [n2]; exact hC⟩
        · have hs : s.toNat < 4 := by omega
          have hok : ¬ (4 ≤ s.toNat ∨ r.toNat < 1 ∨ 3 < r.toNat ∨ t = opTok) := by
            rintro (h | h | h | h)
            · omega
            · omega
            · omega
            · exact h4 h
          refine seq ?_
          refine reg ?_
          refine q (mv rfl) ?_
          refine q (mv rfl) ?_
          refine cl0v fb76 rfl (pThere (hC.rd fun x hx => mS (.inr hx)) hI hs) ?_
          refine q (by first | exact bNotd rfl | exact bNot rfl) ?_
          refine q (asg rfl) ?_
          refine en ?_
          refine ifd rfl (fun ht => ?_) (fun ht => ?_)
          · refine seq ?_
            refine reg ?_
            refine q (asg rfl) ?_
            refine en ?_
            refine ret (dBr (dSr ?_))
            have e : M.add s t r = (1, M) := by unfold CM.add; rw [if_neg hok, if_pos ht]
            rw [e]
            exact finQ l rfl rfl (fun a => by first | (simp only [cnt_append, cnt_cons, cnt_nil, id]; done) | (simp only [cnt_append, cnt_cons, cnt_nil, id]; omega)) ⟨rfl, hC⟩
          · obtain ⟨m, kv, ck, rfl, hk⟩ := hC
            have h16 : (catC M.qs m)[0 + 16]? = some (.map (some m)) := catC_map hI.len
            have hsome : (getK kv t).isSome = (look M.ps t).isSome := by rw [hk.get, Option.isSome_map]
            obtain ⟨p, hp⟩ : ∃ p, (getK kv t).getD (.agg (List.toArray [.int .u8 0, .int .u8 0])) = .agg (prnC p).toArray := by
              rw [hk.get]; cases look M.ps t with
              | none => exact ⟨(0, 0), rfl⟩
              | some x => exact ⟨x, rfl⟩
            refine skp (dBn (dSq ?_))
            refine seq ?_
            refine seq ?_
            refine drw (by kernel_rfl) [(.q, 0), (.q, 1), (.q, 2), (.q, 3), (.q, 4), (.q, 5), (.q, 6), (.q, 7), (.p, 8), (.a, 9), (.s, 10), (.q, 11)] _ rfl (by kernel_rfl) (by kernel_rfl) ⟨alF rfl zr134 rfl, trivial⟩ ?_
            refine xq rfl (mv rfl) ?_
            refine xq rfl (nck rfl) ?_
            refine xq rfl (fa fo123_1 rfl) ?_
            refine xq rfl (ld na120 rfl (by first | exact mR (by assumption) | repeat (first | assumption | exact m0 | apply mS | apply mA)) (by first | rfl | assumption)) ?_
            refine xq rfl (ldA ag65 rfl (by first | exact mR (by assumption) | repeat (first | assumption | exact m0 | apply mS | apply mA)) (by first | assumption | repeat constructor)) ?_
            refine xq rfl ((lko Try.underlying120 tokKey zr134 rfl rfl m2).to (by rw [hsome, hp])) ?_
            refine xq rfl (mv rfl) ?_
            refine xq rfl (ext rfl rfl) ?_
            refine xp rfl (ext rfl rfl) ?_
            refine xa rfl zr134 rfl ?_
            intro b1
            refine xs rfl (eStA sz134 rfl rfl rfl rfl (by repeat (first | exact .h | apply In.t | apply In.r)) (by first | assumption | repeat constructor)) ?_
            rintro _ _ rfl
            refine xq rfl (asg rfl) ?_
            refine dSq ?_
            refine seq ?_
            refine reg ?_
            refine q (mv rfl) ?_
            refine en ?_
            refine ifb rfl (fun hb => ?_) (fun hb => ?_)
            · refine seq ?_
              refine reg ?_
              refine q (asg rfl) ?_
              refine en ?_
              refine ret (dSr ?_)
              have hb' : (look M.ps t).isSome = true := hb
              have e : M.add s t r = (10, M) := by unfold CM.add; rw [if_neg hok, if_neg ht, if_pos hb']
              rw [e]
              exact finQ [(c, .cells (List.toArray (catC M.qs m)) 123 (0, 0)), (m, .map (ents tokV kv) ck)] rfl rfl (fun a => by first | (simp only [cnt_append, cnt_cons, cnt_nil, id]; done) | (simp only [cnt_append, cnt_cons, cnt_nil, id]; omega)) ⟨rfl, ⟨m, kv, ck, rfl, hk⟩⟩
            · have hb' : (look M.ps t).isSome = false := hb
              refine skp (dSq ?_)
              refine seq ?_
              refine seq ?_
              refine reg ?_
              refine q (mv rfl) ?_
              refine q (mv rfl) ?_
              refine cl0v fb107 rfl (pMany (IsC.rd (l := [(c, .cells (List.toArray (catC M.qs m)) 123 (0, 0)), (m, .map (ents tokV kv) ck)]) ⟨m, kv, ck, rfl, hk⟩ fun x hx => .inr (by simp at hx ⊢; rcases hx with rfl | rfl <;> simp)) hI hI.len16) ?_
              refine q (bGeq rfl rfl) ?_
              refine en ?_
              refine ifd rfl (fun hm4 => ?_) (fun hm4 => ?_)
              · refine seq ?_
                refine reg ?_
                refine q (asg rfl) ?_
                refine en ?_
                refine ret (dSr ?_)
                have e : M.add s t r = (9, M) := by unfold CM.add; rw [if_neg hok, if_neg ht, if_neg (by simp [hb']), if_pos (by omega)]
                rw [e]
                exact finQ [(c, .cells (List.toArray (catC M.qs m)) 123 (0, 0)), (m, .map (ents tokV kv) ck)] rfl rfl (fun a => by first | (simp only [cnt_append, cnt_cons, cnt_nil, id]; done) | (simp only [cnt_append, cnt_cons, cnt_nil, id]; omega)) ⟨rfl, ⟨m, kv, ck, rfl, hk⟩⟩
              · refine skp (dSq ?_)
                refine seq ?_
                refine drw (by kernel_rfl) [(.q, 0), (.q, 1), (.q, 2), (.q, 3), (.q, 4), (.q, 5), (.q, 6), (.q, 7), (.s, 8)] _ rfl (by kernel_rfl) (by kernel_rfl) trivial ?_
                refine xq rfl (mv rfl) ?_
                refine xq rfl (nck rfl) ?_
                refine xq rfl (fa fo123_1 rfl) ?_
                refine xq rfl (ld na120 rfl (by first | exact mR (by assumption) | repeat (first | assumption | exact m0 | apply mS | apply mA)) (by first | rfl | assumption)) ?_
                refine xq rfl (ldA ag65 rfl (by first | exact mR (by assumption) | repeat (first | assumption | exact m0 | apply mS | apply mA)) (by first | assumption | repeat constructor)) ?_
                refine xq rfl (mv rfl) ?_
                refine xq rfl (mv rfl) ?_
                refine xq rfl (bd pl134 rfl (.c1 rfl (by first | decide | simp) rfl (by repeat constructor) (.c1 rfl (by first | decide | simp) rfl (by repeat constructor) .n))) ?_
                have e : M.add s t r = (0, { M with ps := ins ⟨t, s, r⟩ M.ps }) := by unfold CM.add; rw [if_neg hok, if_neg ht, if_neg (by simp [hb']), if_neg (by omega)]
                rw [e]
                refine xs rfl (eUp Try.underlying120 tokKey rfl rfl rfl (by repeat (first | exact .h | apply In.t | apply In.r))) ?_
                rintro _ _ rfl
                refine dSq ?_
                refine seq ?_
                refine reg ?_
                refine q (asg rfl) ?_
                refine en ?_
                refine ret ?_
                refine finQ [(c, .cells (List.toArray (catC M.qs m)) 123 (0, 0)), (m, .map (ents tokV (setK kv t (.agg (List.toArray [u8V s, u8V r])) ck)) (ckK kv t ck))] rfl rfl (fun a => by first | (simp only [cnt_append, cnt_cons, cnt_nil, id]; done) | (simp only [cnt_append, cnt_cons, cnt_nil, id]; omega)) ⟨rfl, ⟨m, _, _, rfl, hk.ok.set t _, fun u => ?_⟩⟩
                have hnone : look M.ps t = none := by cases hl : look M.ps t <;> simp_all
                rw [getK_set, look_ins (x := ⟨t, s, r⟩) hnone, hk.get]
                by_cases hu : u = t
                · subst hu; rw [if_pos rfl, if_pos rfl]; rfl
                · rw [if_neg hu, if_neg (fun e => hu e.symm)]
/-! ## Deleting a slot's -/
theorem pDelF {R s b n a} (hb : R b (.cells (List.toArray [u8V s]) 5 (0, 0))) : Tri Try.prog 109 [tokV n, .agg (prnC a).toArray, .pointer (some ⟨b, 0, none⟩)] R [] fun v l' => v = .bool (decide (a.1 = s)) ∧ l' = [] := by
  refine enter Try.func109 rfl rfl (by kernel_rfl) rfl fun w0 => ?_
  refine seq ?_
  refine reg ?_
  refine bx rfl rfl fun b1 => ?_
  refine bx rfl rfl ?_
  intro b1
  refine q (asg rfl) ?_
  refine en ?_
  refine seq ?_
  refine reg ?_
  refine q (fa fo134_0 rfl) ?_
  refine q (ld na5 rfl (by first | exact mR (by assumption) | repeat (first | assumption | exact m0 | apply mS | apply mA)) (by first | rfl | assumption)) ?_
  refine q (ld na5 rfl (by first | exact mR (by assumption) | repeat (first | assumption | exact m0 | apply mS | apply mA)) (by first | rfl | assumption)) ?_
  refine q (bEql rfl rfl) ?_
  refine q (asg rfl) ?_
  refine en ?_
  refine ret ?_
  refine finQ [] rfl rfl (fun a => by first | (simp only [cnt_append, cnt_cons, cnt_nil, id]; done) | (simp only [cnt_append, cnt_cons, cnt_nil, id]; omega)) ⟨congrArg Value.bool (decide_eq_decide.2 ⟨fun e => UInt8.toNat_inj.1 (by omega), fun e => by rw [e]⟩), rfl⟩
theorem mem_delK {kv : Kv Tok} {k : Tok} (h : (kv.map (·.1)).Nodup) {p : Tok × Value × Nat} : p ∈ delK kv k ↔ p ∈ kv ∧ p.1 ≠ k := by
  induction kv with
  | nil => simp [delK]
  | cons x r ih =>
    simp only [List.map_cons, List.nodup_cons] at h
    rw [delK]
    split
    · rename_i e
      subst e
      constructor
      · intro hp; exact ⟨List.mem_cons_of_mem _ hp, fun e => h.1 (by rw [← e]; exact List.mem_map.2 ⟨p, hp, rfl⟩)⟩
      · rintro ⟨hp, hne⟩
        rcases List.mem_cons.1 hp with rfl | hp
        · exact absurd rfl hne
        · exact hp
    · rename_i e
      rw [List.mem_cons, ih h.2, List.mem_cons]
      constructor
      · rintro (rfl | ⟨h1, h2⟩)
        · exact ⟨.inl rfl, fun h => e h.symm⟩
        · exact ⟨.inr h1, h2⟩
      · rintro ⟨rfl | h1, h2⟩
        · exact .inl rfl
        · exact .inr ⟨h1, h2⟩
theorem getK_iff {kv : Kv Tok} (h : (kv.map (·.1)).Nodup) {t : Tok} {v : Value} : getK kv t = some v ↔ ∃ b, (t, v, b) ∈ kv := by
  induction kv with
  | nil => simp [getK]
  | cons x r ih =>
    simp only [List.map_cons, List.nodup_cons] at h
    rw [getK]
    split
    · rename_i e
      subst e
      constructor
      · intro hv; exact ⟨x.2.2, by rw [← Option.some.inj hv]; exact List.mem_cons_self ..⟩
      · rintro ⟨b, hb⟩
        rcases List.mem_cons.1 hb with hb | hb
        · rw [← hb]
        · exact absurd (List.mem_map.2 ⟨_, hb, rfl⟩) h.1
    · rename_i e
      rw [ih h.2]
      constructor
      · rintro ⟨b, hb⟩; exact ⟨b, List.mem_cons_of_mem _ hb⟩
      · rintro ⟨b, hb⟩
        rcases List.mem_cons.1 hb with hb | hb
        · exact absurd (by rw [← hb]) e
        · exact ⟨b, hb⟩
theorem key_inj {kv : Kv Tok} (h : (kv.map (·.1)).Nodup) {p q : Tok × Value × Nat} (hp : p ∈ kv) (hq : q ∈ kv) (e : p.1 = q.1) : p = q := by
  induction kv with
  | nil => cases hp
  | cons x r ih =>
    simp only [List.map_cons, List.nodup_cons] at h
    rcases List.mem_cons.1 hp with rfl | hp' <;> rcases List.mem_cons.1 hq with rfl | hq'
    · rfl
    · exact absurd (by rw [e]; exact List.mem_map.2 ⟨q, hq', rfl⟩) h.1
    · exact absurd (by rw [← e]; exact List.mem_map.2 ⟨p, hp', rfl⟩) h.1
    · exact ih h.2 hp' hq'
theorem pDeleteFunc {R m kv ck ps s b} (hk : KvR kv ck ps) (hb : R b (.cells (List.toArray [u8V s]) 5 (0, 0))) :
    Tri Try.prog 108 [.map (some m), .func (.func 109) #[] #[.pointer (some ⟨b, 0, none⟩)]] R [(m, .map (ents tokV kv) ck)]
      fun v l' => v = .tuple #[] ∧ ∃ kv', l' = [(m, .map (ents tokV kv') ck)] ∧ KvOk kv' ck ∧ ∀ p, p ∈ kv' ↔ p ∈ kv ∧ slotB ps s p.1 = false := by
  refine enter Try.func108 rfl rfl (by kernel_rfl) rfl fun w0 => ?_
  refine seq ?_
  refine reg ?_
  refine q (mv rfl) ?_
  refine eo (eRg Try.underlying120 rfl m0) ?_
  rintro _ _ ⟨it, rfl, rfl⟩
  refine en ?_
  refine blk ?_
  refine cSub (e' := [(0, .map (some m)), (1, .func (.func 109) #[] #[.pointer (some ⟨b, 0, none⟩)]), (7, .pointer (some ⟨it, 0, none⟩))]) (by repeat first | exact Sub.nil | refine Sub.cons rfl ?_) ?_
  refine loop (fun m' e l => ∃ (seen : Array Nat) (kv' : Kv Tok), m' = kv'.countP (fun p => decide (p.2.2 ∉ seen)) ∧ e = [(0, .map (some m)), (1, .func (.func 109) #[] #[.pointer (some ⟨b, 0, none⟩)]), (7, .pointer (some ⟨it, 0, none⟩))] ∧ l = [(it, .mapIter (some m) ck seen ck), (m, .map (ents tokV kv') ck)] ∧ KvOk kv' ck ∧ ∀ p, p ∈ kv' ↔ p ∈ kv ∧ ¬ (p.2.2 ∈ seen ∧ slotB ps s p.1 = true)) _ ⟨#[], kv, rfl, rfl, rfl, hk.ok, by simp⟩ ?_
  rintro m' _ _ ⟨seen, kv', rfl, rfl, rfl, hok, hmem⟩
  refine seq ?_
  refine reg ?_
  refine eo (eNx hok rfl m1 (List.mem_cons_self ..)) ?_
  intro v l' hN
  rcases hN with ⟨rfl, rfl, hall⟩ | ⟨⟨n, v0, bn⟩, hpk, hns, rfl, hin⟩
  · refine q (ext rfl rfl) ?_
    refine en ?_
    refine seq ?_
    refine ifF rfl ?_
    refine exi (dSe (dLe (dBe ?_)))
    refine finQN [(m, .map (ents tokV kv') ck)] rfl (fun a => by first | (simp only [cnt_append, cnt_cons, cnt_nil, id]; done) | (simp only [cnt_append, cnt_cons, cnt_nil, id]; omega)) ⟨rfl, kv', rfl, hok, fun p => ?_⟩
    rw [hmem]
    constructor
    · rintro ⟨h1, h2⟩
      refine ⟨h1, ?_⟩
      have h3 := hall p ((hmem p).2 ⟨h1, h2⟩)
      cases hsl : slotB ps s p.1 with
      | false => rfl
      | true => exact absurd ⟨h3, hsl⟩ h2
    · rintro ⟨h1, h2⟩
      exact ⟨h1, fun h => by rw [h2] at h; cases h.2⟩
  · simp only at hns hin
    refine oPerm (l' := [(it, .mapIter (some m) ck (seen.push bn) ck), (m, .map (ents tokV kv') ck)]) (permC fun a => by have := hin.cnt a; simp only [cnt_cons] at *; omega) ?_
    refine q (ext rfl rfl) ?_
    refine en ?_
    refine seq ?_
    refine ifT rfl ?_
    refine skp (dSq ?_)
    refine blk ?_
    refine seq ?_
    refine reg ?_
    have hpk0 : (n, v0, bn) ∈ kv := ((hmem _).1 hpk).1
    obtain ⟨⟨sl, ro⟩, hlk, hv0⟩ := hk.mem hpk0
    simp only at hlk hv0
    subst hv0
    have hT : Tk 0 8 (tokC n) (tokC n) := tkAll (tokC_len n)
    refine q (ent hok hpk rfl m1 m0) ?_
    refine q (ext rfl rfl) ?_
    refine q (ext rfl rfl) ?_
    refine al zr65 rfl ?_
    intro b1
    refine al zr134 rfl ?_
    intro b2
    refine stA sz65 rfl rfl (tokC_len n) (tokC_one n) (.t .h) (upAll (by rw [tokC_len]; rfl)) ?_
    refine stA sz134 rfl rfl rfl rfl (by repeat (first | exact .h | apply In.t | apply In.r)) (by first | assumption | repeat constructor) ?_
    refine en ?_
    refine seq ?_
    refine reg ?_
    refine q (mv rfl) ?_
    refine q (ldA ag65 rfl (by first | exact mR (by assumption) | repeat (first | assumption | exact m0 | apply mS | apply mA)) (by first | assumption | repeat constructor)) ?_
    refine q (ldA ag134 rfl (by first | exact mR (by assumption) | repeat (first | assumption | exact m0 | apply mS | apply mA)) (by first | assumption | repeat constructor)) ?_
    refine clGv (fst := #[]) (cap := #[.pointer (some ⟨b, 0, none⟩)]) rfl rfl fb109 rfl (pDelF (n := n) (a := (sl, ro)) (.inl hb)) ?_
    refine en ?_
    have hslot : slotB ps s n = decide (sl = s) := by
      unfold slotB; rw [hlk]
      by_cases e : sl = s
      · subst e; simp
      · simp [e]
    refine ifd rfl (fun he => ?_) (fun he => ?_)
    · refine reg ?_
      refine q (mv rfl) ?_
      refine q (ldA ag65 rfl (by first | exact mR (by assumption) | repeat (first | assumption | exact m0 | apply mS | apply mA)) (by first | assumption | repeat constructor)) ?_
      refine eo (eDl Try.underlying120 tokKey rfl rfl (by repeat (first | exact .h | apply In.t | apply In.r))) ?_
      rintro _ _ rfl
      refine enD (dBn ?_)
      refine dSub [(it, .mapIter (some m) ck (seen.push bn) ck), (m, .map (ents tokV (delK kv' n)) ck)] (fun a => by first | (simp only [cnt_append, cnt_cons, cnt_nil, id]; done) | (simp only [cnt_append, cnt_cons, cnt_nil, id]; omega)) (dLp (m' := _) (e' := [(0, .map (some m)), (1, .func (.func 109) #[] #[.pointer (some ⟨b, 0, none⟩)]), (7, .pointer (some ⟨it, 0, none⟩))]) ?_ (by repeat first | exact Sub.nil | refine Sub.cons rfl ?_) ⟨seen.push bn, delK kv' n, rfl, rfl, rfl, hok.del n, fun p => ?_⟩)
      · exact Nat.lt_of_le_of_lt (List.Sublist.countP_le delK_sub) (find_seen hpk hns)
      · rw [mem_delK hok.keys, hmem]
        constructor
        · rintro ⟨⟨h1, h2⟩, h3⟩
          refine ⟨h1, fun ⟨h4, h5⟩ => h2 ⟨?_, h5⟩⟩
          rcases Array.mem_push.1 h4 with h4 | h4
          · exact h4
          · exact absurd (congrArg (·.1) (Wk.born_inj hk.ok.born h1 hpk0 h4)) h3
        · rintro ⟨h1, h2⟩
          refine ⟨⟨h1, fun ⟨h4, h5⟩ => h2 ⟨Array.mem_push.2 (.inl h4), h5⟩⟩, fun e => h2 ⟨?_, by rw [e, hslot, decide_eq_true he]⟩⟩
          have : p = (n, .agg (prnC (sl, ro)).toArray, bn) := by
            have h3 := (getK_iff hk.ok.keys (t := n) (v := p.2.1)).2 ⟨p.2.2, by rw [← e]; exact h1⟩
            have h4 := (getK_iff hk.ok.keys (t := n) (v := .agg (prnC (sl, ro)).toArray)).2 ⟨bn, hpk0⟩
            exact key_inj hk.ok.keys h1 hpk0 e
          rw [this]; exact Array.mem_push.2 (.inr rfl)
    · refine skp (dBn ?_)
      refine dSub [(it, .mapIter (some m) ck (seen.push bn) ck), (m, .map (ents tokV kv') ck)] (fun a => by first | (simp only [cnt_append, cnt_cons, cnt_nil, id]; done) | (simp only [cnt_append, cnt_cons, cnt_nil, id]; omega)) (dLp (m' := _) (e' := [(0, .map (some m)), (1, .func (.func 109) #[] #[.pointer (some ⟨b, 0, none⟩)]), (7, .pointer (some ⟨it, 0, none⟩))]) (find_seen hpk hns) (by repeat first | exact Sub.nil | refine Sub.cons rfl ?_) ⟨seen.push bn, kv', rfl, rfl, rfl, hok, fun p => ?_⟩)
      rw [hmem]
      constructor
      · rintro ⟨h1, h2⟩
        refine ⟨h1, fun ⟨h4, h5⟩ => h2 ⟨?_, h5⟩⟩
        rcases Array.mem_push.1 h4 with h4 | h4
        · exact h4
        · have := Wk.born_inj hk.ok.born h1 hpk0 h4
          rw [this] at h5
          rw [show (n, Value.agg (prnC (sl, ro)).toArray, bn).1 = n from rfl, hslot, decide_eq_false he] at h5
          cases h5
      · rintro ⟨h1, h2⟩
        exact ⟨h1, fun ⟨h4, h5⟩ => h2 ⟨Array.mem_push.2 (.inl h4), h5⟩⟩
theorem filter_get {kv kv' : Kv Tok} {ck : Nat} {M : CM} {s : UInt8} (hI : CI M) (hk : KvR kv ck M.ps) (hok : KvOk kv' ck) (hmem : ∀ p, p ∈ kv' ↔ p ∈ kv ∧ slotB M.ps s p.1 = false) : KvR kv' ck (M.ps.filter (·.slot ≠ s)) := by
  refine ⟨hok, fun t => ?_⟩
  rw [look_filter_slot hI.sd]
  have h1 : ∀ v, getK kv' t = some v ↔ getK kv t = some v ∧ slotB M.ps s t = false := fun v => by
    rw [getK_iff hok.keys, getK_iff hk.ok.keys]
    constructor
    · rintro ⟨b, hb⟩; obtain ⟨h2, h3⟩ := (hmem _).1 hb; exact ⟨⟨b, h2⟩, h3⟩
    · rintro ⟨⟨b, hb⟩, h3⟩; exact ⟨b, (hmem _).2 ⟨hb, h3⟩⟩
  have h2 := hk.get t
  unfold slotB at h1
  cases hl : look M.ps t with
  | none =>
    rw [hl] at h2 h1
    cases hg : getK kv' t with
    | none => rfl
    | some v => have := ((h1 v).1 hg).1; rw [h2] at this; cases this
  | some x =>
    rw [hl] at h2 h1
    by_cases hs : x.1 = s
    · cases hg : getK kv' t with
      | none => simp [hs]
      | some v => have := ((h1 v).1 hg).2; simp [hs] at this
    · rw [(h1 _).2 ⟨h2, by simpa using hs⟩]; simp [hs]
theorem pRemove {R c M s l} (hC : IsC c M l) (hI : CI M) : Tri Try.prog 73 [(.pointer (some ⟨c, 0, none⟩)), u8V s] R l fun v l' => v = u8V (M.remove s).1 ∧ IsC c (M.remove s).2 l' := by
  refine enter Try.func73 rfl rfl (by kernel_rfl) rfl fun w0 => ?_
  refine seq ?_
  refine reg ?_
  refine bx rfl rfl fun b1 => ?_
  refine q (asg rfl) ?_
  refine en ?_
  refine seq ?_
  refine blk ?_
  refine seq ?_
  refine reg ?_
  refine q (mv rfl) ?_
  refine cl0v fb75 rfl (pNone (hC.rd fun x hx => mS (.inr hx)) hI) ?_
  refine q (asg rfl) ?_
  refine en ?_
  refine ifF rfl ?_
  refine seq ?_
  refine reg ?_
  refine q (ld na5 rfl (by first | exact mR (by assumption) | repeat (first | assumption | exact m0 | apply mS | apply mA)) (by first | rfl | assumption)) ?_
  refine q (bGeq rfl rfl) ?_
  refine q (asg rfl) ?_
  refine en ?_
  refine ifd rfl (fun hs => ?_) (fun hs => ?_)
  · refine seq ?_
    refine reg ?_
    refine q (asg rfl) ?_
    refine en ?_
    refine ret (dBr (dSr ?_))
    have e : M.remove s = (11, M) := by unfold CM.remove; rw [if_pos (by omega)]
    rw [e]
    exact finQ l rfl rfl (fun a => by first | (simp only [cnt_append, cnt_cons, cnt_nil, id]; done) | (simp only [cnt_append, cnt_cons, cnt_nil, id]; omega)) ⟨rfl, hC⟩
  · have hs : s.toNat < 4 := by omega
    refine seq ?_
    refine reg ?_
    refine q (mv rfl) ?_
    refine q (ld na5 rfl (by first | exact mR (by assumption) | repeat (first | assumption | exact m0 | apply mS | apply mA)) (by first | rfl | assumption)) ?_
    refine cl0v fb76 rfl (pThere (hC.rd fun x hx => mS (.inr hx)) hI hs) ?_
    refine q (by first | exact bNotd rfl | exact bNot rfl) ?_
    refine q (asg rfl) ?_
    refine en ?_
    refine ifd rfl (fun ht => ?_) (fun ht => ?_)
    · refine seq ?_
      refine reg ?_
      refine q (asg rfl) ?_
      refine en ?_
      refine ret (dBr (dSr ?_))
      have e : M.remove s = (1, M) := by unfold CM.remove; rw [if_neg (by omega), if_pos ht]
      rw [e]
      exact finQ l rfl rfl (fun a => by first | (simp only [cnt_append, cnt_cons, cnt_nil, id]; done) | (simp only [cnt_append, cnt_cons, cnt_nil, id]; omega)) ⟨rfl, hC⟩
    · obtain ⟨m, kv, ck, rfl, hk⟩ := hC
      have h16 : (catC (M.qs.set s.toNat Q0) m)[0 + 16]? = some (.map (some m)) := catC_map (by rw [List.length_set]; exact hI.len)
      have hset : UpM (catC M.qs m) (0 + 0 + ((s.toNat : Nat) : Int).toNat * 4) (quoC Q0) (catC (M.qs.set s.toNat Q0) m) := by
        rw [Int.toNat_natCast, show 0 + 0 + s.toNat * 4 = s.toNat * 4 by omega]; exact catC_set hI.len hs Q0
      have e : M.remove s = (0, ⟨M.qs.set s.toNat Q0, M.ps.filter (·.slot ≠ s)⟩) := by unfold CM.remove; rw [if_neg (by omega), if_neg ht]
      rw [e]
      refine skp (dBn (dSq ?_))
      refine seq ?_
      refine drw (by kernel_rfl) [(.q, 0), (.q, 1), (.q, 2), (.q, 3), (.q, 4), (.q, 5), (.s, 6)] _ rfl (by kernel_rfl) (by kernel_rfl) trivial ?_
      refine xq rfl (mv rfl) ?_
      refine xq rfl (ld na5 rfl (by first | exact mR (by assumption) | repeat (first | assumption | exact m0 | apply mS | apply mA)) (by first | rfl | assumption)) ?_
      refine xq rfl (bd pl67 rfl .n) ?_
      refine xq rfl (nck rfl) ?_
      refine xq rfl (fa fo123_0 rfl) ?_
      refine xq rfl (iaA Try.underlying121 sz67 rfl rfl (by omega) (by omega)) ?_
      refine xs rfl (eStA sz67 rfl rfl rfl rfl (by repeat (first | exact .h | apply In.t | apply In.r)) (by first | assumption | repeat constructor)) ?_
      rintro _ _ rfl
      refine dSq ?_
      refine seq ?_
      refine reg ?_
      refine q (mv rfl) ?_
      refine q (nck rfl) ?_
      refine q (fa fo123_1 rfl) ?_
      refine q (ld na120 rfl (by first | exact mR (by assumption) | repeat (first | assumption | exact m0 | apply mS | apply mA)) (by first | rfl | assumption)) ?_
      refine q (mkF rfl rfl (fun w => rfl)) ?_
      refine clQ fb108 rfl [(m, .map (ents tokV kv) ck)] [(b1, .cells (List.toArray [u8V s]) 5 (0, 0)), (c, .cells (catC (M.qs.set s.toNat Q0) m).toArray 123 (0, 0))] (fun a => by first | (simp only [cnt_append, cnt_cons, cnt_nil, id]; done) | (simp only [cnt_append, cnt_cons, cnt_nil, id]; omega)) (pDeleteFunc (b := b1) hk (.inr (List.mem_cons_self ..))) ?_
      rintro v l' ⟨rfl, kv', rfl, hok, hmem⟩
      refine en ?_
      refine seq ?_
      refine reg ?_
      refine q (asg rfl) ?_
      refine en ?_
      refine ret ?_
      exact finQ [(c, .cells (catC (M.qs.set s.toNat Q0) m).toArray 123 (0, 0)), (m, .map (ents tokV kv') ck)] rfl rfl (fun a => by first | (simp only [cnt_append, cnt_cons, cnt_nil, id]; done) | (simp only [cnt_append, cnt_cons, cnt_nil, id]; omega)) ⟨rfl, ⟨m, _, _, rfl, filter_get hI hk hok hmem⟩⟩

