import Derived.Test.YtoecfgldnlglnaaXNu
set_option linter.unusedVariables false
set_option linter.unusedSimpArgs false
set_option maxRecDepth 20000
namespace Go.Proofs.Ytoecfgldnlglnaa
open Go Go.Wk Go.Wk.Num
theorem and_top (n : Nat) (h : n < 2 ^ 8) : andK .u8 (n : Int) ((2 ^ 7 : Nat) : Int) = ((if 128 ≤ n then 128 else 0 : Nat) : Int) := by
  unfold andK
  have h1 : n < 2 ^ IntKind.u8.bits := h
  have h2 : 2 ^ 7 < 2 ^ IntKind.u8.bits := by decide
  rw [BitVec.toNat_and, ofInt_nat h1, ofInt_nat h2]
  by_cases hb : 128 ≤ n
  · have e : n &&& 2 ^ 7 = 2 ^ 7 := by
      have h3 : n = 1 * 2 ^ 7 + (n - 128) := by omega
      have h4 := or_low (a := 1) (b := n - 128) (j := 7) (by omega)
      apply Nat.eq_of_testBit_eq
      intro i
      rw [Nat.testBit_and, h3, ← h4, Nat.testBit_or, Nat.one_mul]
      cases (2 ^ 7).testBit i <;> simp
    rw [if_pos hb, e]; decide
  · have e : n &&& 2 ^ 7 = 0 := by
      apply Nat.eq_of_testBit_eq
      intro i
      rw [Nat.testBit_and, Nat.testBit_two_pow, Nat.zero_testBit]
      by_cases hi : 7 = i
      · subst hi; rw [Nat.testBit_lt_two_pow (by omega)]; rfl
      · simp [hi]
    rw [if_neg hb, e]; decide
theorem rt_none {s : List UInt8} (h : readV s = none) : ((.tuple (List.toArray [.int .u64 (rN s : Nat), .int .i64 (rK s : Nat), .bool (rB s)])) : Value) = .tuple (List.toArray [.int .u64 0, .int .i64 0, .bool false]) := by
  unfold rN rK rB; rw [h]; rfl
theorem rt_some {s : List UInt8} {n k : Nat} (h : readV s = some (n, k)) : ((.tuple (List.toArray [.int .u64 (rN s : Nat), .int .i64 (rK s : Nat), .bool (rB s)])) : Value) = .tuple (List.toArray [.int .u64 (n : Nat), .int .i64 (k : Nat), .bool true]) := by
  unfold rN rK rB; rw [h]; rfl
theorem nReadV {R s} (hs : s.length ≤ 1000000000000) : Tri Try.prog 83 [bs s] R [] fun v l' => v = (.tuple (List.toArray [.int .u64 (rN s : Nat), .int .i64 (rK s : Nat), .bool (rB s)])) ∧ l' = [] := by
  have hsz := bs_size s
  refine enter Try.func83 rfl rfl (by kernel_rfl) rfl fun w0 => ?_
  refine seq ?_
  refine reg ?_
  refine q (asg rfl) ?_
  refine q (asg rfl) ?_
  refine q (asg rfl) ?_
  refine en ?_
  refine seq ?_
  refine blk ?_
  refine cSub (e' := [(0, bs s), (2, .int .u64 0), (3, .int .i64 0)]) (by repeat first | exact Sub.nil | refine Sub.cons rfl ?_) ?_
  refine loop (fun m' e l => ∃ k n : Nat, m' = s.length - k ∧ Rdg s k n ∧ n < 18446744073709551616 ∧ (0 < k → s[0]? ≠ some 128) ∧ e = [(0, bs s), (2, .int .u64 (n : Nat)), (3, .int .i64 (k : Nat))]) s.length ⟨0, 0, rfl, .zero s, by decide, by omega, rfl⟩ ?_
  rintro m' _ l ⟨k, n, rfl, hr, hn, h0, rfl⟩
  refine seq ?_
  refine seq ?_
  refine reg ?_
  refine q (mv rfl) ?_
  refine q (mv rfl) ?_
  refine q (lnS Try.underlying9 rfl) ?_
  refine q (bLss rfl rfl) ?_
  refine q (mv rfl) ?_
  refine decd (t := 10) rfl (fun hk => ?_) (fun hk => ?_)
  · refine gT rfl rfl ?_
    refine q (mv rfl) ?_
    refine gT rfl rfl ?_
    refine q (bLss rfl rfl) ?_
    refine q (by first | exact pkT rfl rfl | exact pkF rfl rfl) ?_
    refine en ?_
    refine ifd rfl (fun h10 => ?_) (fun h10 => ?_)
    · have hkl : k < s.length := by omega
      have hx := List.getElem?_eq_getElem hkl
      generalize s[k] = b at hx
      have hb256 := b.toNat_lt
      refine skp (dSq ?_)
      refine blk ?_
      refine seq ?_
      refine reg ?_
      refine q (mv rfl) ?_
      refine q (mv rfl) ?_
      refine q (sIx (u := b) Try.underlying9 rfl rfl (by omega) (by rw [Int.toNat_natCast]; exact hx)) ?_
      refine q (asg rfl) ?_
      refine en ?_
      refine seq ?_
      refine cutJ (fun e' l' => e' = [(0, bs s), (2, .int .u64 (n : Nat)), (3, .int .i64 (k : Nat)), (5, .int .u8 b.toNat)] ∧ n < 2 ^ 57 ∧ (k = 0 → b.toNat ≠ 128)) ?_ ?_
      · refine seq ?_
        refine reg ?_
        refine q (mv rfl) ?_
        refine q (bEql rfl rfl) ?_
        refine q (mv rfl) ?_
        refine decd (t := 19) rfl (fun hk0 => ?_) (fun hk0 => ?_)
        · refine gT rfl rfl ?_
          refine q (mv rfl) ?_
          refine gT rfl rfl ?_
          refine q (bEql rfl rfl) ?_
          refine q (by first | exact pkT rfl rfl | exact pkF rfl rfl) ?_
          refine q (mv rfl) ?_
          obtain rfl : k = 0 := by omega
          refine decd (t := 23) rfl (fun hb => ?_) (fun hb => ?_)
          · first | refine gF rfl rfl rfl ?_ | refine gU rfl rfl ?_
            first | refine gF rfl rfl rfl ?_ | refine gU rfl rfl ?_
            first | refine gF rfl rfl rfl ?_ | refine gU rfl rfl ?_
            refine q (by first | exact pkT rfl rfl | exact pkF rfl rfl) ?_
            refine en ?_
            refine ifT rfl ?_
            refine exi (dJe (dBo rfl (dLe (dBe (dSq ?_)))))
            refine seq ?_
            refine reg ?_
            refine q (asg rfl) ?_
            refine q (asg rfl) ?_
            refine q (asg rfl) ?_
            refine en ?_
            refine ret ?_
            have hb' : b = 128 := by
              apply UInt8.toNat_inj.1
              have : (128 : UInt8).toNat = 128 := rfl
              omega
            rw [rt_none (readV_none128 (by rw [hx, hb']))]
            exact finQT [] rfl rfl rfl (fun a => by first | (simp only [cnt_append, cnt_cons, cnt_nil, id]; done) | (simp only [cnt_append, cnt_cons, cnt_nil, id]; omega)) ⟨rfl, rfl⟩
          · refine gT rfl rfl ?_
            refine q (mv rfl) ?_
            refine gT rfl rfl ?_
            refine q (shrN n 57 rfl rfl (by decide)) ?_
            refine gT rfl rfl ?_
            refine q (bGtr rfl rfl) ?_
            refine q (by first | exact pkT rfl rfl | exact pkF rfl rfl) ?_
            refine en ?_
            refine ifd rfl (fun hbig => ?_) (fun hbig => ?_)
            · refine exi (dJe (dBo rfl (dLe (dBe (dSq ?_)))))
              refine seq ?_
              refine reg ?_
              refine q (asg rfl) ?_
              refine q (asg rfl) ?_
              refine q (asg rfl) ?_
              refine en ?_
              refine ret ?_
              rw [rt_none (hr.none_big hx (by omega))]
              exact finQT [] rfl rfl rfl (fun a => by first | (simp only [cnt_append, cnt_cons, cnt_nil, id]; done) | (simp only [cnt_append, cnt_cons, cnt_nil, id]; omega)) ⟨rfl, rfl⟩
            · refine skp ?_
              exact dJ (by repeat first | exact Sub.nil | refine Sub.cons rfl ?_) ⟨rfl, by omega, fun _ => by omega⟩
        · first | refine gF rfl rfl rfl ?_ | refine gU rfl rfl ?_
          first | refine gF rfl rfl rfl ?_ | refine gU rfl rfl ?_
          refine q (by first | exact pkT rfl rfl | exact pkF rfl rfl) ?_
          refine q (mv rfl) ?_
          refine gT rfl rfl ?_
          refine q (mv rfl) ?_
          refine gT rfl rfl ?_
          refine q (shrN n 57 rfl rfl (by decide)) ?_
          refine gT rfl rfl ?_
          refine q (bGtr rfl rfl) ?_
          refine q (by first | exact pkT rfl rfl | exact pkF rfl rfl) ?_
          refine en ?_
          refine ifd rfl (fun hbig => ?_) (fun hbig => ?_)
          · refine exi (dJe (dBo rfl (dLe (dBe (dSq ?_)))))
            refine seq ?_
            refine reg ?_
            refine q (asg rfl) ?_
            refine q (asg rfl) ?_
            refine q (asg rfl) ?_
            refine en ?_
            refine ret ?_
            rw [rt_none (hr.none_big hx (by omega))]
            exact finQT [] rfl rfl rfl (fun a => by first | (simp only [cnt_append, cnt_cons, cnt_nil, id]; done) | (simp only [cnt_append, cnt_cons, cnt_nil, id]; omega)) ⟨rfl, rfl⟩
          · refine skp ?_
            exact dJ (by repeat first | exact Sub.nil | refine Sub.cons rfl ?_) ⟨rfl, by omega, fun _ => by omega⟩
      · rintro _ l2 ⟨rfl, hn57, hb0⟩
        have h128 : s[0]? ≠ some 128 := by
          intro e
          by_cases hk0 : k = 0
          · subst hk0
            rw [hx] at e
            have := hb0 rfl
            have e1 := congrArg UInt8.toNat (Option.some.inj e)
            have : (128 : UInt8).toNat = 128 := rfl
            omega
          · exact h0 (by omega) e
        refine seq ?_
        refine reg ?_
        refine q (mv rfl) ?_
        refine q (shlN n 7 (n * 2 ^ 7) rfl rfl (by decide) (by rw [u64_mod]; congr 1; omega)) ?_
        refine q (mv rfl) ?_
        refine q (andN b.toNat (2 ^ 7 - 1) (b.toNat % 2 ^ 7) rfl rfl (and_u8 7 (by omega) (by decide))) ?_
        refine q (cvN (b.toNat % 2 ^ 7) (b.toNat % 2 ^ 7) Try.underlying5 Try.underlying128 rfl (by rw [u64_mod]; congr 1; omega)) ?_
        refine q (orN (n * 2 ^ 7) (b.toNat % 2 ^ 7) (n * 2 ^ 7 + b.toNat % 2 ^ 7) rfl rfl (or_u64 7 (by omega) (by omega))) ?_
        refine q (asg rfl) ?_
        refine en ?_
        refine seq ?_
        refine reg ?_
        refine q (mv rfl) ?_
        refine q (by first | exact bAddi rfl rfl (by omega) | exact bAdd rfl rfl) ?_
        refine q (asg rfl) ?_
        refine en ?_
        refine seq ?_
        refine reg ?_
        refine q (mv rfl) ?_
        have hand : andK .u8 (b.toNat : Int) ((2 ^ 7 : Nat) : Int) = ((if 128 ≤ b.toNat then 128 else 0 : Nat) : Int) := and_top b.toNat hb256
        refine q (andN b.toNat (2 ^ 7) (if 128 ≤ b.toNat then 128 else 0) rfl rfl hand) ?_
        refine q (bEql rfl rfl) ?_
        refine en ?_
        have e128 : n * 2 ^ 7 + b.toNat % 2 ^ 7 = 128 * n + b.toNat % 128 := by omega
        refine ifd rfl (fun hlt => ?_) (fun hlt => ?_)
        · refine seq ?_
          refine reg ?_
          refine q (mv rfl) ?_
          refine q (mv rfl) ?_
          refine q (asg rfl) ?_
          refine q (asg rfl) ?_
          refine q (asg rfl) ?_
          refine en ?_
          refine ret (dBr (dLr (dBr (dSr ?_))))
          have hb : b.toNat < 128 := by
            by_cases h : 128 ≤ b.toNat
            · rw [if_pos h] at hlt; omega
            · omega
          rw [rt_some (hr.done hx hb h128 (by unfold M64; omega))]
          exact finQT [] rfl rfl rfl (fun a => by first | (simp only [cnt_append, cnt_cons, cnt_nil, id]; done) | (simp only [cnt_append, cnt_cons, cnt_nil, id]; omega)) ⟨by rw [e128]; rfl, rfl⟩
        · refine skp (dBn ?_)
          have hb : 128 ≤ b.toNat := by
            by_cases h : 128 ≤ b.toNat
            · exact h
            · rw [if_neg h] at hlt; omega
          refine dLp (m' := s.length - (k + 1)) (e' := [(0, bs s), (2, .int .u64 ((n * 2 ^ 7 + b.toNat % 2 ^ 7 : Nat) : Int)), (3, .int .i64 ((k + 1 : Nat) : Int))]) (by omega) (by repeat first | exact Sub.nil | refine Sub.cons rfl ?_) ⟨k + 1, _, rfl, by rw [e128]; exact hr.next hx (by omega) hb, by omega, fun _ => h128, rfl⟩
    · refine exi (dSe (dLe (dBe (dSq ?_))))
      refine seq ?_
      refine reg ?_
      refine q (asg rfl) ?_
      refine q (asg rfl) ?_
      refine q (asg rfl) ?_
      refine en ?_
      refine ret ?_
      rw [rt_none (hr.none_end (.inr (by omega)))]
      exact finQT [] rfl rfl rfl (fun a => by first | (simp only [cnt_append, cnt_cons, cnt_nil, id]; done) | (simp only [cnt_append, cnt_cons, cnt_nil, id]; omega)) ⟨rfl, rfl⟩
  · first | refine gF rfl rfl rfl ?_ | refine gU rfl rfl ?_
    first | refine gF rfl rfl rfl ?_ | refine gU rfl rfl ?_
    refine q (by first | exact pkT rfl rfl | exact pkF rfl rfl) ?_
    refine en ?_
    refine ifF rfl ?_
    refine exi (dSe (dLe (dBe (dSq ?_))))
    refine seq ?_
    refine reg ?_
    refine q (asg rfl) ?_
    refine q (asg rfl) ?_
    refine q (asg rfl) ?_
    refine en ?_
    refine ret ?_
    rw [rt_none (hr.none_end (.inl (by omega)))]
    exact finQT [] rfl rfl rfl (fun a => by first | (simp only [cnt_append, cnt_cons, cnt_nil, id]; done) | (simp only [cnt_append, cnt_cons, cnt_nil, id]; omega)) ⟨rfl, rfl⟩
theorem nReadVr {R s} (hs : s.length ≤ 1000000000000) : Tri Try.prog 92 [bs s] R [] fun v l' => v = (.tuple (List.toArray [.int .u64 (rN s : Nat), .int .i64 (rK s : Nat), .bool (rB s)])) ∧ l' = [] := by
  have hsz := bs_size s
  refine enter Try.func92 rfl rfl (by kernel_rfl) rfl fun w0 => ?_
  refine seq ?_
  refine reg ?_
  refine q (asg rfl) ?_
  refine q (asg rfl) ?_
  refine q (asg rfl) ?_
  refine en ?_
  refine seq ?_
  refine reg ?_
  refine q (asg rfl) ?_
  refine en ?_
  refine seq ?_
  refine seq ?_
  refine reg ?_
  refine q (asg rfl) ?_
  refine en ?_
  refine blk ?_
  refine cSub (e' := [(0, bs s), (5, .int .u64 0), (6, .int .i64 0)]) (by repeat first | exact Sub.nil | refine Sub.cons rfl ?_) ?_
  refine loop (fun m' e l => ∃ k n : Nat, m' = s.length - k ∧ Rdg s k n ∧ e = [(0, bs s), (5, .int .u64 ((n % M64 : Nat) : Int)), (6, .int .i64 (k : Nat))]) s.length ⟨0, 0, rfl, .zero s, rfl⟩ ?_
  rintro m' _ l ⟨k, n, rfl, hr, rfl⟩
  refine seq ?_
  refine seq ?_
  refine reg ?_
  refine q (mv rfl) ?_
  refine q (mv rfl) ?_
  refine q (lnS Try.underlying9 rfl) ?_
  refine q (bLss rfl rfl) ?_
  refine q (mv rfl) ?_
  refine decd (t := 11) rfl (fun hk => ?_) (fun hk => ?_)
  · refine gT rfl rfl ?_
    refine q (mv rfl) ?_
    refine gT rfl rfl ?_
    refine q (bLss rfl rfl) ?_
    refine q (by first | exact pkT rfl rfl | exact pkF rfl rfl) ?_
    refine en ?_
    refine ifd rfl (fun h10 => ?_) (fun h10 => ?_)
    · have hkl : k < s.length := by omega
      have hx := List.getElem?_eq_getElem hkl
      generalize s[k] = b at hx
      have hb256 := b.toNat_lt
      refine skp (dSq ?_)
      refine seq ?_
      refine blk ?_
      refine seq ?_
      refine reg ?_
      refine q (mv rfl) ?_
      refine q (mulN 128 (n % M64) ((128 * (n % M64)) % M64) rfl rfl (by rw [u64_mod]; rfl)) ?_
      refine q (mv rfl) ?_
      refine q (mv rfl) ?_
      refine q (sIx (u := b) Try.underlying9 rfl rfl (by omega) (by rw [Int.toNat_natCast]; exact hx)) ?_
      refine q (remN b.toNat 128 rfl rfl (by decide)) ?_
      refine q (cvN (b.toNat % 128) (b.toNat % 128) Try.underlying5 Try.underlying128 rfl (by rw [u64_mod]; congr 1; omega)) ?_
      refine q (addN ((128 * (n % M64)) % M64) (b.toNat % 128) ((128 * n + b.toNat % 128) % M64) rfl rfl (by rw [u64_mod]; congr 1; unfold M64; omega)) ?_
      refine q (asg rfl) ?_
      refine en ?_
      refine seq ?_
      refine reg ?_
      refine q (mv rfl) ?_
      refine q (mv rfl) ?_
      refine q (sIx (u := b) Try.underlying9 rfl rfl (by omega) (by rw [Int.toNat_natCast]; exact hx)) ?_
      refine q (bLss rfl rfl) ?_
      refine en ?_
      refine ifd rfl (fun hlt => ?_) (fun hlt => ?_)
      · refine seq ?_
        refine seq ?_
        refine drw (by kernel_rfl) [(.q, 0), (.q, 1), (.q, 2), (.q, 3), (.q, 4), (.q, 5), (.q, 6)] _ rfl (by kernel_rfl) (by kernel_rfl) trivial ?_
        refine xq rfl (mv rfl) ?_
        have hM : (128 * n + b.toNat % 128) % M64 < M64 := Nat.mod_lt _ (by decide)
        refine xc rfl fb91 rfl (fun F => (nOne (R := _) hM).ro) ?_
        refine xq rfl (mv rfl) ?_
        refine xq rfl (mv rfl) ?_
        refine xq rfl ((by first | exact bAddi rfl rfl (by omega) | exact bAdd rfl rfl)) ?_
        refine xq rfl (slT (L := 0) (H := k + 1) Try.underlying9 rfl rfl rfl (by omega) (by omega)) ?_
        refine xq rfl (sNeq rfl rfl) ?_
        refine dSq ?_
        rw [bs_extract, List.drop_zero, Nat.sub_zero]
        have hd := hr.doneR hx (by omega)
        refine ifd rfl (fun he => ?_) (fun he => ?_)
        · refine seq ?_
          refine reg ?_
          refine q (asg rfl) ?_
          refine q (asg rfl) ?_
          refine q (asg rfl) ?_
          refine en ?_
          refine ret (dSr (dBr (dSr (dLr (dBr (dSr ?_))))))
          have he' : oneL ((128 * n + b.toNat % 128) % M64) ≠ s.take (k + 1) := fun e => he (by rw [e])
          rw [rt_none (hd.2 he')]
          exact finQT [] rfl rfl rfl (fun a => by first | (simp only [cnt_append, cnt_cons, cnt_nil, id]; done) | (simp only [cnt_append, cnt_cons, cnt_nil, id]; omega)) ⟨rfl, rfl⟩
        · refine skp (dSq ?_)
          refine seq ?_
          refine reg ?_
          refine q (mv rfl) ?_
          refine q (mv rfl) ?_
          refine q (by first | exact bAddi rfl rfl (by omega) | exact bAdd rfl rfl) ?_
          refine q (asg rfl) ?_
          refine q (asg rfl) ?_
          refine q (asg rfl) ?_
          refine en ?_
          refine ret (dBr (dSr (dLr (dBr (dSr ?_)))))
          have he' : oneL ((128 * n + b.toNat % 128) % M64) = s.take (k + 1) := bs_inj.1 (by simpa using he)
          rw [rt_some (hd.1 he')]
          exact finQT [] rfl rfl rfl (fun a => by first | (simp only [cnt_append, cnt_cons, cnt_nil, id]; done) | (simp only [cnt_append, cnt_cons, cnt_nil, id]; omega)) ⟨rfl, rfl⟩
      · refine skp (dBn (dSq ?_))
        refine reg ?_
        refine q (mv rfl) ?_
        refine q (by first | exact bAddi rfl rfl (by omega) | exact bAdd rfl rfl) ?_
        refine q (asg rfl) ?_
        refine enD ?_
        have hb : 128 ≤ b.toNat := by omega
        refine dLp (m' := s.length - (k + 1)) (e' := [(0, bs s), (5, .int .u64 (((128 * n + b.toNat % 128) % M64 : Nat) : Int)), (6, .int .i64 ((k + 1 : Nat) : Int))]) (by omega) (by repeat first | exact Sub.nil | refine Sub.cons rfl ?_) ⟨k + 1, _, rfl, hr.next hx (by omega) hb, rfl⟩
    · refine exi (dSe (dLe (dBe (dSq ?_))))
      refine seq ?_
      refine reg ?_
      refine q (asg rfl) ?_
      refine q (asg rfl) ?_
      refine q (asg rfl) ?_
      refine en ?_
      refine ret ?_
      rw [rt_none (hr.none_end (.inr (by omega)))]
      exact finQT [] rfl rfl rfl (fun a => by first | (simp only [cnt_append, cnt_cons, cnt_nil, id]; done) | (simp only [cnt_append, cnt_cons, cnt_nil, id]; omega)) ⟨rfl, rfl⟩
  · first | refine gF rfl rfl rfl ?_ | refine gU rfl rfl ?_
    first | refine gF rfl rfl rfl ?_ | refine gU rfl rfl ?_
    refine q (by first | exact pkT rfl rfl | exact pkF rfl rfl) ?_
    refine en ?_
    refine ifF rfl ?_
    refine exi (dSe (dLe (dBe (dSq ?_))))
    refine seq ?_
    refine reg ?_
    refine q (asg rfl) ?_
    refine q (asg rfl) ?_
    refine q (asg rfl) ?_
    refine en ?_
    refine ret ?_
    rw [rt_none (hr.none_end (.inl (by omega)))]
    exact finQT [] rfl rfl rfl (fun a => by first | (simp only [cnt_append, cnt_cons, cnt_nil, id]; done) | (simp only [cnt_append, cnt_cons, cnt_nil, id]; omega)) ⟨rfl, rfl⟩

