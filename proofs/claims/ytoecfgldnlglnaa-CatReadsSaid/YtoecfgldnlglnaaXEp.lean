import Derived.Test.YtoecfgldnlglnaaXEe
set_option linter.unusedVariables false
set_option linter.unusedSimpArgs false
set_option maxRecDepth 20000
namespace Go.Proofs.Ytoecfgldnlglnaa
open Go Go.Wk Go.Wk.Num
theorem rFindN {R v M} {i : Nat} (h : RdT R v M) (hI : CI M) (hi : i < 4) : Tri Try.prog 43 [v, .int .u8 (i : Nat)] R [] fun v l' => v = .tuple (List.toArray [quoV (M.q i), .bool (decide (0 < (M.q i).keys))]) ∧ l' = [] := by
  have h1 : (UInt8.ofNat i).toNat = i := u8_ofNat (by omega)
  have h2 := rFind (s := UInt8.ofNat i) h hI
  rw [show u8V (UInt8.ofNat i) = .int .u8 (i : Nat) by unfold u8V; rw [h1]] at h2
  have h3 : M.quota (UInt8.ofNat i) = (M.q i, decide (0 < (M.q i).keys)) := by
    have hth : M.there (UInt8.ofNat i) ↔ 0 < (M.q i).keys := by unfold CM.there; rw [h1]
    unfold CM.quota
    by_cases hk : 0 < (M.q i).keys
    · rw [if_pos ⟨by omega, hth.2 hk⟩, h1, decide_eq_true hk]
    · rw [if_neg (fun h => hk (hth.1 h.2)), decide_eq_false hk]
      have := hI.not_there (s := UInt8.ofNat i) (fun h => hk (hth.1 h))
      rw [h1] at this
      rw [this]
  rwa [h3] at h2
theorem rWrite {R v M} (h : RdT R v M) (hI : CI M) : Tri Try.prog 46 [v] R [] fun v l' => v = bs M.write ∧ l' = [] := by
  have hr0 := h
  obtain ⟨pT, cT, pP, cP, rfl, hTs, hPs⟩ := h.val
  have hpl := hI.len16'
  refine enter Try.func46 rfl rfl (by kernel_rfl) rfl fun w0 => ?_
  refine seq ?_
  refine reg ?_
  refine bx rfl rfl ?_
  intro b1
  refine q (asg rfl) ?_
  refine en ?_
  refine seq ?_
  refine reg ?_
  refine q (asg rfl) ?_
  refine en ?_
  refine seq ?_
  refine seq ?_
  refine reg ?_
  refine q (asg rfl) ?_
  refine en ?_
  refine blk ?_
  refine cSub (e' := [(1, .pointer (some ⟨b1, 0, none⟩)), (3, bs []), (4, .int .u8 (0 : Nat))]) (by repeat first | exact Sub.nil | refine Sub.cons rfl ?_) ?_
  refine loop (fun m' e l => ∃ i : Nat, m' = 4 - i ∧ i ≤ 4 ∧ e = [(1, .pointer (some ⟨b1, 0, none⟩)), (3, bs ((M.qs.take i).flatMap wQ)), (4, .int .u8 (i : Nat))] ∧ l = [(b1, .cells (List.toArray [.slice pT (tens M.qs).length cT, .slice pP M.ps.length cP]) 85 (0, 0))] ∧ ((M.qs.take i).flatMap wQ).length ≤ 41 * i) 4 ⟨0, rfl, by omega, rfl, rfl, by simp⟩ ?_
  rintro m' _ _ ⟨i, rfl, hi, rfl, rfl, hlen⟩
  refine seq ?_
  refine seq ?_
  refine reg ?_
  refine q (mv rfl) ?_
  refine q (bLss rfl rfl) ?_
  refine en ?_
  refine ifd rfl (fun hlt => ?_) (fun hlt => ?_)
  · have hlt : i < 4 := by omega
    have hw := wqs_take hI hlt
    refine skp (dSq ?_)
    refine seq ?_
    refine blk ?_
    refine seq ?_
    refine reg ?_
    refine q (ldA ag85 rfl (by first | exact mR (by assumption) | repeat (first | assumption | exact m0 | apply mS | apply mA)) (by first | assumption | repeat constructor)) ?_
    refine q (mv rfl) ?_
    refine cl0v fb43 rfl (rFindN (hr0.mono fun b o h => .inl h) hI hlt) ?_
    refine q (mv rfl) ?_
    refine q (ext rfl rfl) ?_
    refine q (ext rfl rfl) ?_
    refine al zr89 rfl ?_
    intro b2
    refine stA sz89 rfl rfl rfl rfl (by repeat (first | exact .h | apply In.t | apply In.r)) (by first | assumption | repeat constructor) ?_
    refine q (asg rfl) ?_
    refine en ?_
    refine seq ?_
    refine reg ?_
    refine q (mv rfl) ?_
    refine en ?_
    refine ifd rfl (fun ht => ?_) (fun ht => ?_)
    · have hrt : (M.q i).right := (q_ok hI i).resolve_left fun e => by rw [e] at ht; simp [Q0] at ht
      have hq := hrt
      unfold Quo.right at hq
      have hwl := wQ_len (q_ok hI i)
      have e1 : wQ (M.q i) = 1 :: numV (numsQ (M.q i)) := by unfold wQ; rw [if_pos ht]
      rw [e1] at hwl
      simp only [List.length_cons] at hwl
      refine reg ?_
      refine q (mv rfl) ?_
      refine q (sAdd rfl rfl (by rw [bs_size, bs_size]; simp only [List.length_cons, List.length_nil]; omega)) ?_
      rw [show (⟨#[1]⟩ : ByteArray) = ⟨[(1 : UInt8)].toArray⟩ from rfl, bs_app]
      refine q (fa fo89_0 rfl) ?_
      refine q (ld na3 rfl (by first | exact mR (by assumption) | repeat (first | assumption | exact m0 | apply mS | apply mA)) (by first | rfl | assumption)) ?_
      refine q ((cvI Try.underlying3 Try.underlying128 rfl).to (u := .int .u64 ((M.q i).keys.toNat : Nat)) (congrArg (Value.int .u64) (u64_int (n := (M.q i).keys) (by omega) (by omega)))) ?_
      refine q (fa fo89_1 rfl) ?_
      refine q (ld na3 rfl (by first | exact mR (by assumption) | repeat (first | assumption | exact m0 | apply mS | apply mA)) (by first | rfl | assumption)) ?_
      refine q ((cvI Try.underlying3 Try.underlying128 rfl).to (u := .int .u64 ((M.q i).bytes.toNat : Nat)) (congrArg (Value.int .u64) (u64_int (n := (M.q i).bytes) (by omega) (by omega)))) ?_
      refine q (fa fo89_2 rfl) ?_
      refine q (ld na3 rfl (by first | exact mR (by assumption) | repeat (first | assumption | exact m0 | apply mS | apply mA)) (by first | rfl | assumption)) ?_
      refine q ((cvI Try.underlying3 Try.underlying128 rfl).to (u := .int .u64 ((M.q i).rate.toNat : Nat)) (congrArg (Value.int .u64) (u64_int (n := (M.q i).rate) (by omega) (by omega)))) ?_
      refine q (fa fo89_3 rfl) ?_
      refine q (ld na3 rfl (by first | exact mR (by assumption) | repeat (first | assumption | exact m0 | apply mS | apply mA)) (by first | rfl | assumption)) ?_
      refine q ((cvI Try.underlying3 Try.underlying128 rfl).to (u := .int .u64 ((M.q i).burst.toNat : Nat)) (congrArg (Value.int .u64) (u64_int (n := (M.q i).burst) (by omega) (by omega)))) ?_
      refine eo (eBs Try.underlying154 sz128 z4u64 ⟨by decide, by decide⟩ rfl (.c1 rfl (by decide) rfl .z (.c1 rfl (by simp) rfl (.s .z) (.c1 rfl (by simp) rfl (.s (.s .z)) (.c1 rfl (by simp) rfl (.s (.s (.s .z))) .n))))) ?_
      rintro _ _ ⟨b4, rfl, rfl⟩
      refine cl0v fb90 rfl (nVr (ns := numsQ (M.q i)) (slN rfl m0) (numsQ_lt hrt) (by simp [numsQ])) ?_
      refine q (sAdd rfl rfl (by rw [bs_size, bs_size]; simp only [List.length_append, List.length_singleton]; omega)) ?_
      rw [bs_app, List.append_assoc, show ([1] : List UInt8) ++ numV (numsQ (M.q i)) = wQ (M.q i) by rw [e1]; rfl, ← hw]
      refine q (asg rfl) ?_
      refine enD (dBn (dSq ?_))
      refine reg ?_
      refine q (mv rfl) ?_
      refine q (addN i 1 (i + 1) rfl rfl (by rw [u8_mod]; congr 1; omega)) ?_
      refine q (asg rfl) ?_
      refine enD ?_
      refine dSub [(b1, .cells (List.toArray [.slice pT (tens M.qs).length cT, .slice pP M.ps.length cP]) 85 (0, 0))] (fun a => by first | (simp only [cnt_append, cnt_cons, cnt_nil, id]; done) | (simp only [cnt_append, cnt_cons, cnt_nil, id]; omega)) (dLp (m' := 4 - (i + 1)) (e' := [(1, .pointer (some ⟨b1, 0, none⟩)), (3, bs ((M.qs.take (i + 1)).flatMap wQ)), (4, .int .u8 ((i + 1 : Nat) : Int))]) (by omega) (by repeat first | exact Sub.nil | refine Sub.cons rfl ?_) ⟨i + 1, rfl, by omega, rfl, rfl, ?_⟩)
      rw [hw, List.length_append, e1, List.length_cons]; omega
    · have e0 : wQ (M.q i) = [0] := by unfold wQ; rw [if_neg ht]
      rw [e0] at hw
      refine reg ?_
      refine q (mv rfl) ?_
      refine q (sAdd rfl rfl (by rw [bs_size, bs_size]; simp only [List.length_cons, List.length_nil]; omega)) ?_
      rw [show (⟨#[0]⟩ : ByteArray) = ⟨[(0 : UInt8)].toArray⟩ from rfl, bs_app, ← hw]
      refine q (asg rfl) ?_
      refine enD (dBn (dSq ?_))
      refine reg ?_
      refine q (mv rfl) ?_
      refine q (addN i 1 (i + 1) rfl rfl (by rw [u8_mod]; congr 1; omega)) ?_
      refine q (asg rfl) ?_
      refine enD ?_
      refine dSub [(b1, .cells (List.toArray [.slice pT (tens M.qs).length cT, .slice pP M.ps.length cP]) 85 (0, 0))] (fun a => by first | (simp only [cnt_append, cnt_cons, cnt_nil, id]; done) | (simp only [cnt_append, cnt_cons, cnt_nil, id]; omega)) (dLp (m' := 4 - (i + 1)) (e' := [(1, .pointer (some ⟨b1, 0, none⟩)), (3, bs ((M.qs.take (i + 1)).flatMap wQ)), (4, .int .u8 ((i + 1 : Nat) : Int))]) (by omega) (by repeat first | exact Sub.nil | refine Sub.cons rfl ?_) ⟨i + 1, rfl, by omega, rfl, rfl, ?_⟩)
      rw [hw, List.length_append, List.length_singleton]; omega
  · have h4 : i = 4 := by omega
    subst h4
    rw [List.take_of_length_le (by rw [hI.len]; omega)] at hlen
    rw [List.take_of_length_le (l := M.qs) (by rw [hI.len]; omega)]
    refine exi (dSe (dLe (dBe (dSq ?_))))
    refine seq ?_
    refine reg ?_
    refine q (mv rfl) ?_
    refine q (fa fo85_1 rfl) ?_
    refine q (ld na83 rfl (by first | exact mR (by assumption) | repeat (first | assumption | exact m0 | apply mS | apply mA)) (by first | rfl | assumption)) ?_
    refine q (lnL Try.underlying83 rfl) ?_
    refine q (cvN M.ps.length M.ps.length Try.underlying3 Try.underlying128 rfl (by rw [u64_mod]; congr 1; omega)) ?_
    refine cl0v fb91 rfl (nOne (by unfold M64; omega)) ?_
    have h5 := (oneL_len (n := M.ps.length) (by unfold M64; omega)).1
    refine q (sAdd rfl rfl (by rw [bs_size, bs_size]; omega)) ?_
    rw [bs_app]
    refine q (asg rfl) ?_
    refine en ?_
    refine seq ?_
    refine seq ?_
    refine reg ?_
    refine q (asg rfl) ?_
    refine en ?_
    refine blk ?_
    refine cSub (e' := [(1, .pointer (some ⟨b1, 0, none⟩)), (3, bs (M.qs.flatMap wQ ++ oneL M.ps.length)), (7, .int .i64 (0 : Nat))]) (by repeat first | exact Sub.nil | refine Sub.cons rfl ?_) ?_
    refine loop (fun m' e l => ∃ i : Nat, m' = M.ps.length - i ∧ i ≤ M.ps.length ∧ e = [(1, .pointer (some ⟨b1, 0, none⟩)), (3, bs (M.qs.flatMap wQ ++ oneL M.ps.length ++ (M.ps.take i).flatMap wP)), (7, .int .i64 (i : Nat))] ∧ l = [(b1, .cells (List.toArray [.slice pT (tens M.qs).length cT, .slice pP M.ps.length cP]) 85 (0, 0))]) M.ps.length ⟨0, rfl, by omega, by simp, rfl⟩ ?_
    rintro m' _ _ ⟨i, rfl, hi, rfl, rfl⟩
    refine seq ?_
    refine seq ?_
    refine reg ?_
    refine q (mv rfl) ?_
    refine q (fa fo85_1 rfl) ?_
    refine q (ld na83 rfl (by first | exact mR (by assumption) | repeat (first | assumption | exact m0 | apply mS | apply mA)) (by first | rfl | assumption)) ?_
    refine q (lnL Try.underlying83 rfl) ?_
    refine q (bLss rfl rfl) ?_
    refine en ?_
    refine ifd rfl (fun hlt => ?_) (fun hlt => ?_)
    · have hlt : i < M.ps.length := by omega
      have hx := List.getElem?_eq_getElem hlt
      generalize M.ps[i] = pr at hx
      obtain ⟨b', o, cs, E, fz, vs, rfl, _, hR, rfl, hj, hTT⟩ := hPs.at kPrn hx
      have hj0 : cs[o + ((i : Nat) : Int).toNat * 3 + 0]? = some (bs (tokB pr.tok)) := by
        rw [hj 0 (by decide)]; exact congrArg (fun x => some (Value.string x)) (tokS pr.tok).symm
      have hj1 : cs[o + ((i : Nat) : Int).toNat * 3 + 1]? = some (u8V pr.slot) := hj 1 (by decide)
      have hj2 : cs[o + ((i : Nat) : Int).toNat * 3 + 2]? = some (u8V pr.role) := hj 2 (by decide)
      have h8 := tokB_len pr.tok
      have hwl := wps_len (M.ps.take i)
      rw [List.length_take] at hwl
      refine skp (dSq ?_)
      refine seq ?_
      refine blk ?_
      refine drw (by kernel_rfl) [(.q, 0), (.q, 1), (.q, 2), (.q, 3), (.q, 4), (.q, 5), (.q, 6), (.q, 7), (.q, 8), (.q, 9), (.q, 10), (.q, 11), (.q, 12), (.q, 13), (.q, 14), (.q, 15), (.q, 16), (.q, 17), (.q, 18), (.q, 19), (.b, 20), (.q, 21), (.q, 22), (.q, 23)] _ rfl (by kernel_rfl) (by kernel_rfl) trivial ?_
      refine xq rfl (mv rfl) ?_
      refine xq rfl (fa fo85_1 rfl) ?_
      refine xq rfl (ld na83 rfl (by first | exact mR (by assumption) | repeat (first | assumption | exact m0 | apply mS | apply mA)) (by first | rfl | assumption)) ?_
      refine xq rfl (mv rfl) ?_
      refine xq rfl (ia Try.underlying83 sz149 rfl rfl (by omega) (by omega)) ?_
      refine xq rfl (fa fo149_0 rfl) ?_
      refine xq rfl (ld na9 rfl (by first | exact mR (by assumption) | repeat (first | assumption | exact m0 | apply mS | apply mA)) (by first | rfl | assumption)) ?_
      refine xq rfl (sAdd rfl rfl (by rw [bs_size, bs_size]; simp only [List.length_append, h8]; omega)) ?_
      rw [bs_app]
      refine xq rfl (fa fo85_1 rfl) ?_
      refine xq rfl (ld na83 rfl (by first | exact mR (by assumption) | repeat (first | assumption | exact m0 | apply mS | apply mA)) (by first | rfl | assumption)) ?_
      refine xq rfl (mv rfl) ?_
      refine xq rfl (ia Try.underlying83 sz149 rfl rfl (by omega) (by omega)) ?_
      refine xq rfl (fa fo149_1 rfl) ?_
      refine xq rfl (ld na5 rfl (by first | exact mR (by assumption) | repeat (first | assumption | exact m0 | apply mS | apply mA)) (by first | rfl | assumption)) ?_
      refine xq rfl (fa fo85_1 rfl) ?_
      refine xq rfl (ld na83 rfl (by first | exact mR (by assumption) | repeat (first | assumption | exact m0 | apply mS | apply mA)) (by first | rfl | assumption)) ?_
      refine xq rfl (mv rfl) ?_
      refine xq rfl (ia Try.underlying83 sz149 rfl rfl (by omega) (by omega)) ?_
      refine xq rfl (fa fo149_2 rfl) ?_
      refine xq rfl (ld na5 rfl (by first | exact mR (by assumption) | repeat (first | assumption | exact m0 | apply mS | apply mA)) (by first | rfl | assumption)) ?_
      refine xb rfl (eBs Try.underlying136 sz5 ⟨_, zr5, z2u8⟩ ⟨by decide, by decide⟩ rfl (.c1 rfl (by decide) rfl .z (.c1 rfl (by simp) rfl (.s .z) .n))) extA ?_
      rintro _ _ ⟨b3, rfl, rfl⟩
      refine xq rfl (cvBS (bs := [pr.slot, pr.role]) Try.underlying136 Try.underlying5 Try.underlying9 rfl (slN (n := 2) (cs := u8s [pr.slot, pr.role]) rfl (R := fun b o => Has R [(b3, Obj.cells (List.toArray [u8V pr.slot, u8V pr.role]) 5 (0, 0))] b o) m0) (fun b o h => h.imp id fun h => List.mem_cons.2 (.inl (List.mem_singleton.1 h)))) ?_
      refine xq rfl (sAdd rfl rfl (by rw [bs_size, bs_size]; simp only [List.length_append, List.length_cons, List.length_nil, h8]; omega)) ?_
      refine xq rfl (asg rfl) ?_
      refine dBn (dSq ?_)
      refine reg ?_
      refine q (mv rfl) ?_
      refine q (by first | exact bAddi rfl rfl (by omega) | exact bAdd rfl rfl) ?_
      refine q (asg rfl) ?_
      refine enD ?_
      rw [bs_app, List.append_assoc _ (tokB pr.tok), show tokB pr.tok ++ [pr.slot, pr.role] = wP pr from rfl, List.append_assoc _ _ (wP pr), ← wps_take hx]
      refine dSub [(b1, .cells (List.toArray [.slice pT (tens M.qs).length cT, .slice (some ⟨b', o, none⟩) M.ps.length cP]) 85 (0, 0))] (fun a => by first | (simp only [cnt_append, cnt_cons, cnt_nil, id]; done) | (simp only [cnt_append, cnt_cons, cnt_nil, id]; omega)) (dLp (m' := M.ps.length - (i + 1)) (e' := [(1, .pointer (some ⟨b1, 0, none⟩)), (3, bs (M.qs.flatMap wQ ++ oneL M.ps.length ++ (M.ps.take (i + 1)).flatMap wP)), (7, .int .i64 ((i + 1 : Nat) : Int))]) (by omega) (by repeat first | exact Sub.nil | refine Sub.cons rfl ?_) ⟨i + 1, rfl, by omega, rfl, rfl⟩)
    · refine exi (dSe (dLe (dBe (dSq ?_))))
      refine seq ?_
      refine reg ?_
      refine q (mv rfl) ?_
      refine q (asg rfl) ?_
      refine en ?_
      refine ret ?_
      rw [List.take_of_length_le (by omega)]
      refine finQ [] rfl rfl (fun a => by first | (simp only [cnt_append, cnt_cons, cnt_nil, id]; done) | (simp only [cnt_append, cnt_cons, cnt_nil, id]; omega)) ⟨?_, rfl⟩
      unfold CM.write
      rw [List.append_assoc]

