import Derived.Test.YtoecfgldnlglnaaXCp
set_option linter.unusedVariables false
set_option linter.unusedSimpArgs false
set_option maxRecDepth 20000
namespace Go.Proofs.Ytoecfgldnlglnaa
open Go Go.Wk Go.Wk.Num
theorem catC_all {qs : List Quo} {m : Nat} (h : qs.length = 4) : Tk (0 + 0) 16 (catC qs m) (qs.map quoC).flatten := by
  have hT := Tk.any (off := 0 + 0) (n := 16) (cs := catC qs m) (by unfold catC; rw [List.length_append, qfl_len]; simp; omega)
  have e : ((catC qs m).drop (0 + 0)).take 16 = (qs.map quoC).flatten := by
    unfold catC
    rw [List.drop_zero, List.take_append_of_le_length (by rw [qfl_len]; omega), List.take_of_length_le (by rw [qfl_len]; omega)]
  rwa [e] at hT
theorem qfl_tk {qs : List Quo} {i : Nat} (h : qs.length = 4) (hi : i < 4) : Tk (i * 4) 4 (qs.map quoC).flatten (quoC (qs.getD i Q0)) := by
  have h1 : (qs.map quoC)[i]? = some (quoC (qs.getD i Q0)) := by
    rw [List.getElem?_map, List.getD_eq_getElem?_getD, List.getElem?_eq_getElem (by omega)]; rfl
  have hT := Tk.any (off := i * 4) (n := 4) (cs := (qs.map quoC).flatten) (by rw [qfl_len]; omega)
  have e : ((qs.map quoC).flatten.drop (i * 4)).take 4 = quoC (qs.getD i Q0) := by
    apply List.ext_getElem?
    intro j
    by_cases hj : j < 4
    · rw [List.getElem?_take_of_lt hj, List.getElem?_drop, flat_at quoC_all h1 hj]
    · rw [List.getElem?_eq_none (by rw [List.length_take]; omega), List.getElem?_eq_none (by rw [quoC_len]; omega)]
  rwa [e] at hT
theorem take_sum {qs : List Quo} {i : Nat} (h : i < qs.length) : sumK (qs.take (i + 1)) = sumK (qs.take i) + (qs.getD i Q0).keys ∧ sumB (qs.take (i + 1)) = sumB (qs.take i) + (qs.getD i Q0).bytes ∧ sumR (qs.take (i + 1)) = sumR (qs.take i) + (qs.getD i Q0).rate := by
  rw [List.take_succ_eq_append_getElem h, List.getD_eq_getElem?_getD, List.getElem?_eq_getElem h]
  simp only [sumK, sumB, sumR, List.map_append, List.map_cons, List.map_nil, List.sum_append, List.sum_cons, List.sum_nil, Option.getD_some, Int.add_zero, and_self]
theorem CI.qbd {M : CM} (hI : CI M) (i : Nat) : 0 ≤ (M.qs.getD i Q0).keys ∧ (M.qs.getD i Q0).keys ≤ 16 ∧ 0 ≤ (M.qs.getD i Q0).bytes ∧ (M.qs.getD i Q0).bytes ≤ 512 ∧ 0 ≤ (M.qs.getD i Q0).rate ∧ (M.qs.getD i Q0).rate ≤ 100 ∧ 0 ≤ (M.qs.getD i Q0).burst ∧ (M.qs.getD i Q0).burst ≤ 100 := by
  have h : M.qs.getD i Q0 = Q0 ∨ (M.qs.getD i Q0).right := by
    rw [List.getD_eq_getElem?_getD]
    by_cases hi : i < M.qs.length
    · rw [List.getElem?_eq_getElem hi]; exact hI.q _ (List.getElem_mem hi)
    · rw [List.getElem?_eq_none (by omega)]; exact .inl rfl
  rcases h with h | h
  · rw [h]; simp [Q0]
  · unfold Quo.right at h; omega
theorem pCreate {R c M s x l} (hC : IsC c M l) (hI : CI M) : Tri Try.prog 70 [(.pointer (some ⟨c, 0, none⟩)), u8V s, quoV x] R l fun v l' => v = u8V (M.create s x).1 ∧ IsC c (M.create s x).2 l' := by
  refine enter Try.func70 rfl rfl (by kernel_rfl) rfl fun w0 => ?_
  refine seq ?_
  refine reg ?_
  refine bx rfl rfl ?_
  intro b1
  refine q (asg rfl) ?_
  refine en ?_
  refine seq ?_
  refine blk ?_
  refine seq ?_
  refine reg ?_
  refine q (mv rfl) ?_
  refine cl0v fb75 rfl (pNone (hC.rd fun x hx => mS (.inr hx)) hI) ?_
  refine q (asg rfl) ?_
  refine en ?_
  refine ifF rfl ?_
  refine seq ?_
  refine reg ?_
  refine q (mv rfl) ?_
  refine q (bGeq rfl rfl) ?_
  refine q (mv rfl) ?_
  refine decd (t := 16) rfl (fun hs => ?_) (fun hs => ?_)
  · first | refine gF rfl rfl rfl ?_ | refine gU rfl rfl ?_
    first | refine gF rfl rfl rfl ?_ | refine gU rfl rfl ?_
    first | refine gF rfl rfl rfl ?_ | refine gU rfl rfl ?_
    refine q (by first | exact pkT rfl rfl | exact pkF rfl rfl) ?_
    refine q (asg rfl) ?_
    refine en ?_
    refine ifT rfl ?_
    refine seq ?_
    refine reg ?_
    refine q (asg rfl) ?_
    refine en ?_
    refine ret (dBr (dSr ?_))
    have e : M.create s x = (11, M) := by unfold CM.create; rw [if_pos (.inl (by omega))]
    rw [e]
    exact finQ l rfl rfl (fun a => by first | (simp only [cnt_append, cnt_cons, cnt_nil, id]; done) | (simp only [cnt_append, cnt_cons, cnt_nil, id]; omega)) ⟨rfl, hC⟩
  · have hs : s.toNat < 4 := by omega
    refine gT rfl rfl ?_
    refine q (ldA ag67 rfl (by first | exact mR (by assumption) | repeat (first | assumption | exact m0 | apply mS | apply mA)) (by first | assumption | repeat constructor)) ?_
    refine gT rfl rfl ?_
    refine cl0v fb38 rfl pRight ?_
    refine gT rfl rfl ?_
    refine q (by first | exact bNotd rfl | exact bNot rfl) ?_
    refine q (by first | exact pkT rfl rfl | exact pkF rfl rfl) ?_
    refine q (asg rfl) ?_
    refine en ?_
    refine ifd rfl (fun hr => ?_) (fun hr => ?_)
    · refine seq ?_
      refine reg ?_
      refine q (asg rfl) ?_
      refine en ?_
      refine ret (dBr (dSr ?_))
      have e : M.create s x = (11, M) := by unfold CM.create; rw [if_pos (.inr hr)]
      rw [e]
      exact finQ l rfl rfl (fun a => by first | (simp only [cnt_append, cnt_cons, cnt_nil, id]; done) | (simp only [cnt_append, cnt_cons, cnt_nil, id]; omega)) ⟨rfl, hC⟩
    · have hr : x.right := by simpa using hr
      refine seq ?_
      refine reg ?_
      refine q (mv rfl) ?_
      refine q (mv rfl) ?_
      refine cl0v fb76 rfl (pThere (hC.rd fun x hx => mS (.inr hx)) hI hs) ?_
      refine q (asg rfl) ?_
      refine en ?_
      refine ifd rfl (fun ht => ?_) (fun ht => ?_)
      · refine seq ?_
        refine reg ?_
        refine q (asg rfl) ?_
        refine en ?_
        refine ret (dBr (dSr ?_))
        have e : M.create s x = (10, M) := by unfold CM.create; rw [if_neg (by simp [hr]; omega), if_pos ht]
        rw [e]
        exact finQ l rfl rfl (fun a => by first | (simp only [cnt_append, cnt_cons, cnt_nil, id]; done) | (simp only [cnt_append, cnt_cons, cnt_nil, id]; omega)) ⟨rfl, hC⟩
      · obtain ⟨m, kv, ck, rfl, hk⟩ := hC
        have hA := catC_all (m := m) hI.len
        refine skp (dBn (dSq ?_))
        refine seq ?_
        refine reg ?_
        refine q (ldA ag67 rfl (by first | exact mR (by assumption) | repeat (first | assumption | exact m0 | apply mS | apply mA)) (by first | assumption | repeat constructor)) ?_
        refine al zr67 rfl ?_
        intro b2
        refine stA sz67 rfl rfl rfl rfl (by repeat (first | exact .h | apply In.t | apply In.r)) (by first | assumption | repeat constructor) ?_
        refine en ?_
        refine seq ?_
        refine seq ?_
        refine reg ?_
        refine q (mv rfl) ?_
        refine q (nck rfl) ?_
        refine q (fa fo123_0 rfl) ?_
        refine q (ldA ag121 rfl (by first | exact mR (by assumption) | repeat (first | assumption | exact m0 | apply mS | apply mA)) (by first | assumption | repeat constructor)) ?_
        refine q (mv rfl) ?_
        refine en ?_
        refine blk ?_
        have hx := hr
        unfold Quo.right at hx
        refine cSub (e' := [(0, (.pointer (some ⟨c, 0, none⟩))), (1, u8V s), (5, .pointer (some ⟨b1, 0, none⟩)), (7, .pointer (some ⟨b2, 0, none⟩)), (29, .agg (M.qs.map quoC).flatten.toArray), (30, .int .i64 0)]) (by repeat first | exact Sub.nil | refine Sub.cons rfl ?_) ?_
        refine loop (fun m' e l => ∃ (i : Nat) (k b r : Int), m' = 4 - i ∧ i ≤ 4 ∧ k = x.keys + sumK (M.qs.take i) ∧ b = x.bytes + sumB (M.qs.take i) ∧ r = x.rate + sumR (M.qs.take i) ∧ 0 ≤ k ∧ k ≤ 16 + 16 * i ∧ 0 ≤ b ∧ b ≤ 512 + 512 * i ∧ 0 ≤ r ∧ r ≤ 100 + 100 * i ∧ e = [(0, (.pointer (some ⟨c, 0, none⟩))), (1, u8V s), (5, .pointer (some ⟨b1, 0, none⟩)), (7, .pointer (some ⟨b2, 0, none⟩)), (29, .agg (M.qs.map quoC).flatten.toArray), (30, .int .i64 (i : Nat))] ∧ l = [(b2, .cells (List.toArray [.int .i64 k, .int .i64 b, .int .i64 r, .int .i64 x.burst]) 67 (0, 0)), (b1, .cells (quoC x).toArray 67 (0, 0)), (c, .cells (List.toArray (catC M.qs m)) 123 (0, 0)), (m, .map (ents tokV kv) ck)]) 4 ⟨0, x.keys, x.bytes, x.rate, rfl, by omega, by simp [sumK], by simp [sumB], by simp [sumR], by omega, by omega, by omega, by omega, by omega, by omega, rfl, rfl⟩ ?_
        rintro m' _ _ ⟨i, k, b, r, rfl, hi, ek, eb, er, k1, k2, bb1, bb2, r1, r2, rfl, rfl⟩
        refine seq ?_
        refine reg ?_
        refine q (bLss rfl rfl) ?_
        refine en ?_
        refine seq ?_
        refine ifd rfl (fun hlt => ?_) (fun hlt => ?_)
        · have hlt : i < 4 := by omega
          refine skp (dSq ?_)
          refine seq ?_
          refine blk ?_
          refine seq ?_
          refine reg ?_
          refine q (ixAA Try.underlying121 ag67 rfl rfl (by omega) (by omega) (by rw [Int.toNat_natCast]; exact qfl_tk hI.len hlt)) ?_
          have hq := hI.qbd i
          refine al zr67 rfl ?_
          intro b3
          refine stA sz67 rfl rfl rfl rfl (by repeat (first | exact .h | apply In.t | apply In.r)) (by first | assumption | repeat constructor) ?_
          refine en ?_
          refine drwK [(b3, .cells (quoC (M.qs.getD i Q0)).toArray 67 (0, 0))] _ (List.perm_append_comm (l₁ := [_])) (by kernel_rfl) [(.q, 0), (.q, 1), (.q, 2), (.q, 3), (.q, 4), (.q, 5), (.q, 6), (.p, 7), (.p, 8), (.p, 9), (.q, 10), (.q, 11), (.p, 12), (.p, 13), (.p, 14), (.q, 15), (.s, 16), (.q, 17), (.s, 18), (.q, 19), (.s, 20)] _ rfl (by kernel_rfl) (by kernel_rfl) trivial ?_
          refine xq rfl (fa fo67_0 rfl) ?_
          refine xq rfl (ld na3 rfl (by first | exact mR (by assumption) | repeat (first | assumption | exact m0 | apply mS | apply mA)) (by first | rfl | assumption)) ?_
          refine xq rfl (fa fo67_0 rfl) ?_
          refine xq rfl (ld na3 rfl (by first | exact mR (by assumption) | repeat (first | assumption | exact m0 | apply mS | apply mA)) (by first | rfl | assumption)) ?_
          refine xq rfl ((by first | exact bAddi rfl rfl (by omega) | exact bAdd rfl rfl)) ?_
          refine xq rfl (fa fo67_1 rfl) ?_
          refine xq rfl (ld na3 rfl (by first | exact mR (by assumption) | repeat (first | assumption | exact m0 | apply mS | apply mA)) (by first | rfl | assumption)) ?_
          refine xp rfl (fa fo67_1 rfl) ?_
          refine xp rfl (ld na3 rfl (by first | exact mR (by assumption) | repeat (first | assumption | exact m0 | apply mS | apply mA)) (by first | rfl | assumption)) ?_
          refine xp rfl ((by first | exact bAddi rfl rfl (by omega) | exact bAdd rfl rfl)) ?_
          refine xq rfl (fa fo67_2 rfl) ?_
          refine xq rfl (ld na3 rfl (by first | exact mR (by assumption) | repeat (first | assumption | exact m0 | apply mS | apply mA)) (by first | rfl | assumption)) ?_
          refine xp rfl (fa fo67_2 rfl) ?_
          refine xp rfl (ld na3 rfl (by first | exact mR (by assumption) | repeat (first | assumption | exact m0 | apply mS | apply mA)) (by first | rfl | assumption)) ?_
          refine xp rfl ((by first | exact bAddi rfl rfl (by omega) | exact bAdd rfl rfl)) ?_
          refine xq rfl (fa fo67_0 rfl) ?_
          refine xsK rfl (eSt sz3 rfl rfl rfl (by repeat (first | exact .h | apply In.t | apply In.r)) (by first | assumption | repeat constructor)) (fun _ l' h => h ▸ ⟨_, List.perm_append_comm (l₁ := [_])⟩) ?_
          rintro _ _ rfl
          refine xq rfl (fa fo67_1 rfl) ?_
          refine xsK rfl (eSt sz3 rfl rfl rfl (by repeat (first | exact .h | apply In.t | apply In.r)) (by first | assumption | repeat constructor)) (fun _ l' h => h ▸ ⟨_, List.perm_append_comm (l₁ := [_])⟩) ?_
          rintro _ _ rfl
          refine xq rfl (fa fo67_2 rfl) ?_
          refine xsK rfl (eSt sz3 rfl rfl rfl (by repeat (first | exact .h | apply In.t | apply In.r)) (by first | assumption | repeat constructor)) (fun _ l' h => h ▸ ⟨_, List.perm_append_comm (l₁ := [_])⟩) ?_
          rintro _ _ rfl
          refine dBn (dSq ?_)
          refine reg ?_
          refine q (by first | exact bAddi rfl rfl (by omega) | exact bAdd rfl rfl) ?_
          refine q (mv rfl) ?_
          refine enD ?_
          have hs3 := take_sum (qs := M.qs) (i := i) (by rw [hI.len]; exact hlt)
          refine dSub [(b2, .cells (List.toArray [.int .i64 (k + (M.qs.getD i Q0).keys), .int .i64 (b + (M.qs.getD i Q0).bytes), .int .i64 (r + (M.qs.getD i Q0).rate), .int .i64 x.burst]) 67 (0, 0)), (b1, .cells (quoC x).toArray 67 (0, 0)), (c, .cells (List.toArray (catC M.qs m)) 123 (0, 0)), (m, .map (ents tokV kv) ck)] (fun a => by first | (simp only [cnt_append, cnt_cons, cnt_nil, id]; done) | (simp only [cnt_append, cnt_cons, cnt_nil, id]; omega)) (dLp (m' := 4 - (i + 1)) (e' := [(0, (.pointer (some ⟨c, 0, none⟩))), (1, u8V s), (5, .pointer (some ⟨b1, 0, none⟩)), (7, .pointer (some ⟨b2, 0, none⟩)), (29, .agg (M.qs.map quoC).flatten.toArray), (30, .int .i64 ((i + 1 : Nat) : Int))]) (by omega) (by repeat first | exact Sub.nil | refine Sub.cons rfl ?_) ?_)
          exact ⟨i + 1, _, _, _, rfl, by omega, by rw [hs3.1]; omega, by rw [hs3.2.1]; omega, by rw [hs3.2.2]; omega, by omega, by omega, by omega, by omega, by omega, by omega, rfl, rfl⟩
        · have h4 : i = 4 := by omega
          rw [List.take_of_length_le (by rw [hI.len]; omega)] at ek eb er
          have hfit : M.fits x ↔ k ≤ 48 ∧ b ≤ 1536 ∧ r ≤ 200 := by unfold CM.fits; omega
          have hno : ∀ p, ¬ M.fits x → p = u8V (9 : UInt8) → p = u8V (M.create s x).1 ∧ (M.create s x).2 = M := fun p h1 h2 => by
            have e : M.create s x = (9, M) := by unfold CM.create; rw [if_neg (by simp [hr]; omega), if_neg ht, if_pos h1]
            rw [e]; exact ⟨h2, rfl⟩
          refine exi (dSe (dLe (dBe (dSq ?_))))
          refine seq ?_
          refine seq ?_
          refine reg ?_
          refine q (fa fo67_0 rfl) ?_
          refine q (ld na3 rfl (by first | exact mR (by assumption) | repeat (first | assumption | exact m0 | apply mS | apply mA)) (by first | rfl | assumption)) ?_
          refine q (bGtr rfl rfl) ?_
          refine q (mv rfl) ?_
          refine decd (t := 55) rfl (fun hk1 => ?_) (fun hk1 => ?_)
          · first | refine gF rfl rfl rfl ?_ | refine gU rfl rfl ?_
            first | refine gF rfl rfl rfl ?_ | refine gU rfl rfl ?_
            first | refine gF rfl rfl rfl ?_ | refine gU rfl rfl ?_
            refine q (by first | exact pkT rfl rfl | exact pkF rfl rfl) ?_
            refine q (mv rfl) ?_
            first | refine gF rfl rfl rfl ?_ | refine gU rfl rfl ?_
            first | refine gF rfl rfl rfl ?_ | refine gU rfl rfl ?_
            first | refine gF rfl rfl rfl ?_ | refine gU rfl rfl ?_
            refine q (by first | exact pkT rfl rfl | exact pkF rfl rfl) ?_
            refine en ?_
            refine ifT rfl ?_
            refine seq ?_
            refine reg ?_
            refine q (asg rfl) ?_
            refine en ?_
            refine ret (dSr ?_)
            obtain ⟨n1, n2⟩ := hno (.int .u8 9) (by rw [hfit]; omega) rfl
            exact finQ [(c, .cells (List.toArray (catC M.qs m)) 123 (0, 0)), (m, .map (ents tokV kv) ck)] rfl rfl (fun a => by first | (simp only [cnt_append, cnt_cons, cnt_nil, id]; done) | (simp only [cnt_append, cnt_cons, cnt_nil, id]; omega)) ⟨n1, by rw [n2]; exact ⟨m, kv, ck, rfl, hk⟩⟩
          · refine gT rfl rfl ?_
            refine q (fa fo67_1 rfl) ?_
            refine gT rfl rfl ?_
            refine q (ld na3 rfl (by first | exact mR (by assumption) | repeat (first | assumption | exact m0 | apply mS | apply mA)) (by first | rfl | assumption)) ?_
            refine gT rfl rfl ?_
            refine q (bGtr rfl rfl) ?_
            refine q (by first | exact pkT rfl rfl | exact pkF rfl rfl) ?_
            refine q (mv rfl) ?_
            refine decd (t := 60) rfl (fun hk2 => ?_) (fun hk2 => ?_)
            · first | refine gF rfl rfl rfl ?_ | refine gU rfl rfl ?_
              first | refine gF rfl rfl rfl ?_ | refine gU rfl rfl ?_
              first | refine gF rfl rfl rfl ?_ | refine gU rfl rfl ?_
              refine q (by first | exact pkT rfl rfl | exact pkF rfl rfl) ?_
              refine en ?_
              refine ifT rfl ?_
              refine seq ?_
              refine reg ?_
              refine q (asg rfl) ?_
              refine en ?_
              refine ret (dSr ?_)
              obtain ⟨n1, n2⟩ := hno (.int .u8 9) (by rw [hfit]; omega) rfl
              exact finQ [(c, .cells (List.toArray (catC M.qs m)) 123 (0, 0)), (m, .map (ents tokV kv) ck)] rfl rfl (fun a => by first | (simp only [cnt_append, cnt_cons, cnt_nil, id]; done) | (simp only [cnt_append, cnt_cons, cnt_nil, id]; omega)) ⟨n1, by rw [n2]; exact ⟨m, kv, ck, rfl, hk⟩⟩
            · refine gT rfl rfl ?_
              refine q (fa fo67_2 rfl) ?_
              refine gT rfl rfl ?_
              refine q (ld na3 rfl (by first | exact mR (by assumption) | repeat (first | assumption | exact m0 | apply mS | apply mA)) (by first | rfl | assumption)) ?_
              refine gT rfl rfl ?_
              refine q (bGtr rfl rfl) ?_
              refine q (by first | exact pkT rfl rfl | exact pkF rfl rfl) ?_
              refine en ?_
              refine ifd rfl (fun hk3 => ?_) (fun hk3 => ?_)
              · refine seq ?_
                refine reg ?_
                refine q (asg rfl) ?_
                refine en ?_
                refine ret (dSr ?_)
                obtain ⟨n1, n2⟩ := hno (.int .u8 9) (by rw [hfit]; omega) rfl
                exact finQ [(c, .cells (List.toArray (catC M.qs m)) 123 (0, 0)), (m, .map (ents tokV kv) ck)] rfl rfl (fun a => by first | (simp only [cnt_append, cnt_cons, cnt_nil, id]; done) | (simp only [cnt_append, cnt_cons, cnt_nil, id]; omega)) ⟨n1, by rw [n2]; exact ⟨m, kv, ck, rfl, hk⟩⟩
              · have e : M.create s x = (0, { M with qs := M.qs.set s.toNat x }) := by unfold CM.create; rw [if_neg (by simp [hr]; omega), if_neg ht, if_neg (by rw [hfit]; omega)]
                rw [e]
                have hset : UpM (catC M.qs m) (0 + 0 + ((s.toNat : Nat) : Int).toNat * 4) (quoC x) (catC (M.qs.set s.toNat x) m) := by
                  rw [Int.toNat_natCast, show 0 + 0 + s.toNat * 4 = s.toNat * 4 by omega]; exact catC_set hI.len hs x
                refine skp (dSq ?_)
                refine seq ?_
                refine drw (by kernel_rfl) [(.q, 0), (.q, 1), (.q, 2), (.q, 3), (.q, 4), (.q, 5), (.s, 6)] _ rfl (by kernel_rfl) (by kernel_rfl) trivial ?_
                refine xq rfl (mv rfl) ?_
                refine xq rfl (mv rfl) ?_
                refine xq rfl (ldA ag67 rfl (by first | exact mR (by assumption) | repeat (first | assumption | exact m0 | apply mS | apply mA)) (by first | assumption | repeat constructor)) ?_
                refine xq rfl (nck rfl) ?_
                refine xq rfl (fa fo123_0 rfl) ?_
                refine xq rfl (iaA Try.underlying121 sz67 rfl rfl (by omega) (by omega)) ?_
                refine xs rfl (eStA sz67 rfl rfl rfl rfl (by repeat (first | exact .h | apply In.t | apply In.r)) (by first | assumption | repeat constructor)) ?_
                rintro _ _ rfl
                refine dSq ?_
                refine seq ?_
                refine reg ?_
                refine q (asg rfl) ?_
                refine en ?_
                refine ret ?_
                exact finQ [(c, .cells (catC (M.qs.set s.toNat x) m).toArray 123 (0, 0)), (m, .map (ents tokV kv) ck)] rfl rfl (fun a => by first | (simp only [cnt_append, cnt_cons, cnt_nil, id]; done) | (simp only [cnt_append, cnt_cons, cnt_nil, id]; omega)) ⟨rfl, ⟨m, kv, ck, rfl, hk⟩⟩

