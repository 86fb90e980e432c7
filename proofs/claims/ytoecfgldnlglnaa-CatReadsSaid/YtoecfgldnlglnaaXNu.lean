import Derived.Test.YtoecfgldnlglnaaG7
import Derived.Test.YtoecfgldnlglnaaGF
set_option linter.unusedVariables false
set_option linter.unusedSimpArgs false
set_option maxRecDepth 20000
namespace Go.Proofs.Ytoecfgldnlglnaa
open Go Go.Wk Go.Wk.Num
theorem nOne {R n} (hn : n < M64) : Tri Try.prog 91 [.int .u64 (n : Nat)] R [] fun v l' => v = bs (oneL n) ∧ l' = [] := by
  have hn' : n < 18446744073709551616 := hn
  refine enter Try.func91 rfl rfl (by kernel_rfl) rfl fun w0 => ?_
  refine seq ?_
  refine reg ?_
  refine q (asg rfl) ?_
  refine en ?_
  refine seq ?_
  refine reg ?_
  refine q (mv rfl) ?_
  refine q (remN n 128 rfl rfl (by decide)) ?_
  refine q (cvN (n % 128) (n % 128) Try.underlying128 Try.underlying5 rfl (by rw [u8_mod]; congr 1; omega)) ?_
  refine bc1 Try.underlying136 Try.underlying5 in5 Try.underlying9 rfl (by omega) (fun b u => ?_)
  refine q (asg rfl) ?_
  refine en ?_
  refine seq ?_
  refine blk ?_
  refine cSub (e' := [(0, .int .u64 (n : Nat)), (3, bs [UInt8.ofNat (n % 128)])]) (by repeat first | exact Sub.nil | refine Sub.cons rfl ?_) ?_
  refine loop (fun m' e l => ∃ m suf, m' = m ∧ e = [(0, .int .u64 (m : Nat)), (3, bs suf)] ∧ m ≤ n ∧ oneL n = grpH (m / 128) ++ suf) n ⟨n, [UInt8.ofNat (n % 128)], rfl, rfl, Nat.le_refl _, rfl⟩ ?_
  rintro m' _ l ⟨m, suf, rfl, rfl, hm, he⟩
  refine seq ?_
  refine seq ?_
  refine reg ?_
  refine q (mv rfl) ?_
  refine q (bGtr rfl rfl) ?_
  refine en ?_
  refine ifd rfl (fun h => ?_) (fun h => ?_)
  · refine skp (dSq ?_)
    refine blk ?_
    refine seq ?_
    refine reg ?_
    refine q (mv rfl) ?_
    refine q (quoN m' 128 rfl rfl (by decide) (by rw [u64_mod]; congr 1; omega)) ?_
    refine q (asg rfl) ?_
    refine en ?_
    refine reg ?_
    refine q (mv rfl) ?_
    refine q (remN (m' / 128) 128 rfl rfl (by decide)) ?_
    refine q (addN 128 (m' / 128 % 128) (128 + m' / 128 % 128) rfl rfl (by rw [u64_mod]; congr 1; omega)) ?_
    refine q (cvN (128 + m' / 128 % 128) (128 + m' / 128 % 128) Try.underlying128 Try.underlying5 rfl (by rw [u8_mod]; congr 1; omega)) ?_
    refine bc1 Try.underlying136 Try.underlying5 in5 Try.underlying9 rfl (by omega) (fun b u => ?_)
    refine q (mv rfl) ?_
    have hl := (oneL_len hn).1
    rw [he, List.length_append] at hl
    refine q (sAdd rfl rfl (by simp only [bs_size, List.length_singleton]; omega)) ?_
    refine q (asg rfl) ?_
    refine enD (dBn ?_)
    rw [bs_app]
    refine dLp (m' := m' / 128) (e' := [(0, .int .u64 ((m' / 128 : Nat) : Int)), (3, bs (UInt8.ofNat (128 + m' / 128 % 128) :: suf))]) (by omega) (by repeat first | exact Sub.nil | refine Sub.cons rfl ?_) ⟨_, _, rfl, rfl, by omega, ?_⟩
    rw [he, grpH_pos (show 0 < m' / 128 by omega)]; simp
  · refine exi (dSe (dLe (dBe (dSq ?_))))
    refine seq ?_
    refine reg ?_
    refine q (mv rfl) ?_
    refine q (asg rfl) ?_
    refine en ?_
    refine ret ?_
    refine finQ [] rfl rfl (fun a => by first | (simp only [cnt_append, cnt_cons, cnt_nil, id]; done) | (simp only [cnt_append, cnt_cons, cnt_nil, id]; omega)) ⟨?_, rfl⟩
    rw [he, show m' / 128 = 0 by omega, grpH_zero]; rfl
abbrev u64s (ns : List Nat) : List Value := ns.map fun n => .int .u64 (n : Nat)
theorem numV_take {ns : List Nat} {i n : Nat} (h : ns[i]? = some n) : numV (ns.take (i + 1)) = numV (ns.take i) ++ oneL n := by
  have hi := (List.getElem?_eq_some_iff.1 h).1
  rw [List.take_succ_eq_append_getElem hi, numV, List.flatMap_append, (List.getElem?_eq_some_iff.1 h).2]; simp [numV]
theorem numV_len {ns : List Nat} (h : ∀ n ∈ ns, n < M64) : (numV ns).length ≤ 10 * ns.length := by
  induction ns with
  | nil => simp [numV]
  | cons n ns ih =>
    have h1 := (oneL_len (h n (List.mem_cons_self ..))).1
    have h2 := ih fun n hn => h n (List.mem_cons_of_mem _ hn)
    have e : numV (n :: ns) = oneL n ++ numV ns := rfl
    rw [e]; simp; omega
theorem u64s_at {ns : List Nat} {i n : Nat} (h : ns[i]? = some n) : (u64s ns)[i]? = some (.int .u64 (n : Nat)) := by simp [h]
/-- V of the document. -/
theorem nVr {R v ns} (hv : SlV 1 R v (u64s ns)) (hn : ∀ n ∈ ns, n < M64) (hl : ns.length ≤ 1000) : Tri Try.prog 90 [v] R [] fun v l' => v = bs (numV ns) ∧ l' = [] := by
  obtain ⟨p, n0, cap, rfl, hlen⟩ := hv.len
  simp only [List.length_map, Nat.mul_one] at hlen
  subst hlen
  refine enter Try.func90 rfl rfl (by kernel_rfl) rfl fun w0 => ?_
  refine seq ?_
  refine reg ?_
  refine q (asg rfl) ?_
  refine en ?_
  refine seq ?_
  refine reg ?_
  refine q (asg rfl) ?_
  refine en ?_
  refine seq ?_
  refine seq ?_
  refine reg ?_
  refine q (asg rfl) ?_
  refine en ?_
  refine blk ?_
  refine cSub (e' := [(0, .slice p ns.length cap), (3, bs []), (4, .int .i64 0)]) (by repeat first | exact Sub.nil | refine Sub.cons rfl ?_) ?_
  refine loop (fun m' e l => ∃ i : Nat, m' = ns.length - i ∧ i ≤ ns.length ∧ e = [(0, .slice p ns.length cap), (3, bs (numV (ns.take i))), (4, .int .i64 i)]) ns.length ⟨0, rfl, by omega, rfl⟩ ?_
  rintro m' _ l ⟨i, rfl, hi, rfl⟩
  refine seq ?_
  refine seq ?_
  refine reg ?_
  refine q (mv rfl) ?_
  refine q (mv rfl) ?_
  refine q (lnL Try.underlying154 rfl) ?_
  refine q (bLss rfl rfl) ?_
  refine en ?_
  refine ifd rfl (fun h => ?_) (fun h => ?_)
  · have hi : i < ns.length := by omega
    have hx := List.getElem?_eq_getElem hi
    have hb := hn _ (List.mem_of_getElem? hx)
    obtain ⟨b, o, cs, E, fz, rfl, _, hR, hj⟩ := hv.at1 (u64s_at hx)
    refine skp (dSq ?_)
    refine seq ?_
    refine blk ?_
    refine reg ?_
    refine q (mv rfl) ?_
    refine q (mv rfl) ?_
    refine q (mv rfl) ?_
    refine q (ia Try.underlying154 sz128 rfl rfl (by omega) (by omega)) ?_
    refine q (ld na128 rfl (by first | exact mR (by assumption) | repeat (first | assumption | exact m0 | apply mS | apply mA)) (by first | rfl | assumption)) ?_
    refine cl0v fb91 rfl (nOne hb) ?_
    have h1 := numV_len (ns := ns.take i) fun n hn' => hn n (List.mem_of_mem_take hn')
    have h2 := oneL_len hb
    rw [List.length_take] at h1
    refine q (sAdd rfl rfl (by simp only [bs_size]; omega)) ?_
    refine q (asg rfl) ?_
    refine enD (dBn (dSq ?_))
    refine reg ?_
    refine q (mv rfl) ?_
    refine q (by first | exact bAddi rfl rfl (by omega) | exact bAdd rfl rfl) ?_
    refine q (asg rfl) ?_
    refine enD ?_
    rw [bs_app, ← numV_take hx]
    exact dLp (m' := ns.length - (i + 1)) (e' := [(0, .slice (some ⟨b, o, none⟩) ns.length cap), (3, bs (numV (ns.take (i + 1)))), (4, .int .i64 ((i + 1 : Nat) : Int))]) (by omega) (by repeat first | exact Sub.nil | refine Sub.cons rfl ?_) ⟨i + 1, rfl, by omega, rfl⟩
  · refine exi (dSe (dLe (dBe (dSq ?_))))
    refine seq ?_
    refine reg ?_
    refine q (mv rfl) ?_
    refine q (asg rfl) ?_
    refine en ?_
    refine ret ?_
    refine finQ [] rfl rfl (fun a => by first | (simp only [cnt_append, cnt_cons, cnt_nil, id]; done) | (simp only [cnt_append, cnt_cons, cnt_nil, id]; omega)) ⟨?_, rfl⟩
    rw [List.take_of_length_le (by omega)]
theorem drop_set_pred {α : Type} {cs : List α} {k : Nat} {v : α} (h : k < cs.length) : (cs.set k v).drop k = v :: cs.drop (k + 1) := by
  rw [List.drop_eq_getElem_cons (by simpa using h), List.getElem_set_self, List.drop_set_of_lt (by omega)]
theorem nV {R v ns} (hv : SlV 1 R v (u64s ns)) (hn : ∀ n ∈ ns, n < M64) (hl : ns.length ≤ 1000) : Tri Try.prog 77 [v] R [] fun v l' => v = bs (numV ns) ∧ l' = [] := by
  obtain ⟨p, n0, cap, rfl, hlen⟩ := hv.len
  simp only [List.length_map, Nat.mul_one] at hlen
  subst hlen
  refine enter Try.func77 rfl rfl (by kernel_rfl) rfl fun w0 => ?_
  refine seq ?_
  refine reg ?_
  refine q (asg rfl) ?_
  refine en ?_
  refine seq ?_
  refine reg ?_
  refine q (asg rfl) ?_
  refine en ?_
  refine seq ?_
  refine seq ?_
  refine reg ?_
  refine q (mv rfl) ?_
  refine q (lnL Try.underlying154 rfl) ?_
  refine q (mv rfl) ?_
  refine en ?_
  refine blk ?_
  refine cSub (e' := [(3, .slice none 0 0), (8, .slice p ns.length cap), (9, .int .i64 ns.length), (10, .int .i64 0)]) (by repeat first | exact Sub.nil | refine Sub.cons rfl ?_) ?_
  refine loop (fun m' e l => ∃ (i : Nat) (v : Value), m' = ns.length - i ∧ i ≤ ns.length ∧ SlO 5 1 v (u8s (numV (ns.take i))) l ∧ e = [(3, v), (8, .slice p ns.length cap), (9, .int .i64 ns.length), (10, .int .i64 i)]) ns.length ⟨0, _, rfl, by omega, .nil, rfl⟩ ?_
  rintro m' _ l ⟨i, v, rfl, hi, hO, rfl⟩
  refine seq ?_
  refine reg ?_
  refine q (bLss rfl rfl) ?_
  refine en ?_
  refine seq ?_
  refine ifd rfl (fun h => ?_) (fun h => ?_)
  · have hi : i < ns.length := by omega
    have hx := List.getElem?_eq_getElem hi
    have hb := hn _ (List.mem_of_getElem? hx)
    have hb' : ns[i] < 18446744073709551616 := hb
    obtain ⟨b, o, cs, E, fz, rfl, _, hR, hj⟩ := hv.at1 (u64s_at hx)
    generalize ns[i] = n at hx hb hb' hj
    have h1 := numV_len (ns := ns.take i) fun n hn' => hn n (List.mem_of_mem_take hn')
    have h2 := oneL_len hb
    rw [List.length_take] at h1
    refine skp (dSq ?_)
    refine seq ?_
    refine blk ?_
    refine seq ?_
    refine reg ?_
    refine q (ia Try.underlying154 sz128 rfl rfl (by omega) (by omega)) ?_
    refine q (ld na128 rfl (by first | exact mR (by assumption) | repeat (first | assumption | exact m0 | apply mS | apply mA)) (by first | rfl | assumption)) ?_
    refine q (asg rfl) ?_
    refine en ?_
    refine seq ?_
    refine reg ?_
    refine al zr171 rfl ?_
    intro b1
    refine en ?_
    refine seq ?_
    refine reg ?_
    refine q (asg rfl) ?_
    refine en ?_
    refine seq ?_
    refine reg ?_
    refine q (mv rfl) ?_
    refine q (mv rfl) ?_
    refine q (andN n (2 ^ 7 - 1) (n % 2 ^ 7) rfl rfl (and_u64 7 hb' (by decide))) ?_
    refine q (cvN (n % 2 ^ 7) (n % 2 ^ 7) Try.underlying128 Try.underlying5 rfl (by rw [u8_mod]; congr 1; omega)) ?_
    refine q (iaA Try.underlying171 sz5 rfl rfl (by omega) (by omega)) ?_
    refine st sz5 rfl rfl rfl (by repeat (first | exact .h | apply In.t | apply In.r)) (by first | assumption | repeat constructor) ?_
    refine en ?_
    refine seq ?_
    refine seq ?_
    refine reg ?_
    refine q (mv rfl) ?_
    refine q (shrN n 7 rfl rfl (by decide)) ?_
    refine q (asg rfl) ?_
    refine en ?_
    refine blk ?_
    refine cSub (e' := [(3, v), (5, .int .u64 ((n / 2 ^ 7 : Nat) : Int)), (6, .pointer (some ⟨b1, 0, none⟩)), (7, .int .i64 9), (8, .slice (some ⟨b, o, none⟩) ns.length cap), (9, .int .i64 ns.length), (10, .int .i64 i)]) (by repeat first | exact Sub.nil | refine Sub.cons rfl ?_) ?_
    refine loop (fun m' e l' => ∃ (m k : Nat) (cs : List Value) (suf : List UInt8), m' = m ∧ m < 18446744073709551616 ∧ oneL n = grpH m ++ suf ∧ cs.length = 10 ∧ k ≤ 9 ∧ 10 = k + suf.length ∧ cs.drop k = u8s suf ∧ l' = (b1, .cells cs.toArray 171 (0, 0)) :: l ∧ e = [(3, v), (5, .int .u64 (m : Nat)), (6, .pointer (some ⟨b1, 0, none⟩)), (7, .int .i64 (k : Nat)), (8, .slice (some ⟨b, o, none⟩) ns.length cap), (9, .int .i64 ns.length), (10, .int .i64 i)]) (n / 2 ^ 7) ⟨n / 2 ^ 7, 9, _, [UInt8.ofNat (n % 128)], rfl, by omega, rfl, ?_, by decide, rfl, ?_, rfl, rfl⟩ ?_
    · rfl
    · rw [u8_val (by omega)]; rfl
    rintro m' _ _ ⟨m, k, cs', suf, rfl, hm64, he, hcl, hk9, hks, hdr, rfl, rfl⟩
    refine seq ?_
    refine seq ?_
    refine reg ?_
    refine q (mv rfl) ?_
    refine q (bGtr rfl rfl) ?_
    refine en ?_
    refine ifd rfl (fun hpos => ?_) (fun hpos => ?_)
    · have hpos : 0 < m' := by omega
      have hk0 : 0 < k := by
        have := congrArg List.length he
        rw [grpH_pos hpos] at this
        simp at this; omega
      refine skp (dSq ?_)
      refine seq ?_
      refine blk ?_
      refine seq ?_
      refine reg ?_
      refine q (mv rfl) ?_
      refine q ((bSubi rfl rfl (by omega)).to (show _ = Value.int .i64 ((k - 1 : Nat) : Int) by congr 1; omega)) ?_
      refine q (asg rfl) ?_
      refine en ?_
      refine reg ?_
      refine q (mv rfl) ?_
      refine q (mv rfl) ?_
      refine q (andN m' (2 ^ 7 - 1) (m' % 2 ^ 7) rfl rfl (and_u64 7 hm64 (by decide))) ?_
      refine q (cvN (m' % 2 ^ 7) (m' % 2 ^ 7) Try.underlying128 Try.underlying5 rfl (by rw [u8_mod]; congr 1; omega)) ?_
      refine q (orN (m' % 2 ^ 7) (1 * 2 ^ 7) (1 * 2 ^ 7 + m' % 2 ^ 7) rfl rfl (or_u8' 7 (by omega) (by omega))) ?_
      refine q (iaA Try.underlying171 sz5 rfl rfl (by omega) (by omega)) ?_
      refine st sz5 rfl rfl rfl .h (UpC.any (by rw [Int.toNat_natCast]; omega)) ?_
      refine enD (dBn (dSq ?_))
      refine reg ?_
      refine q (mv rfl) ?_
      refine q (shrN m' 7 rfl rfl (by decide)) ?_
      refine q (asg rfl) ?_
      refine enD ?_
      have hu : (1 * 2 ^ 7 + m' % 2 ^ 7) < 256 := by omega
      refine dLp (m' := m' / 2 ^ 7) (e' := [(3, v), (5, .int .u64 ((m' / 2 ^ 7 : Nat) : Int)), (6, .pointer (some ⟨b1, 0, none⟩)), (7, .int .i64 ((k - 1 : Nat) : Int)), (8, .slice (some ⟨b, o, none⟩) ns.length cap), (9, .int .i64 ns.length), (10, .int .i64 i)]) (by omega) (by repeat first | exact Sub.nil | refine Sub.cons rfl ?_) ⟨m' / 2 ^ 7, k - 1, _, UInt8.ofNat (1 * 2 ^ 7 + m' % 2 ^ 7) :: suf, rfl, by omega, ?_, ?_, by omega, ?_, ?_, rfl, rfl⟩
      · rw [he, grpH_pos hpos]; simp
      · simpa using hcl
      · simp; omega
      · rw [Int.toNat_natCast, Nat.zero_add, Nat.mul_one, drop_set_pred (by omega), show k - 1 + 1 = k by omega, hdr, u8_val hu]; rfl
    · refine exi (dSe (dLe (dBe (dSq ?_))))
      refine reg ?_
      refine q (mv rfl) ?_
      refine q (mv rfl) ?_
      have hz : m' = 0 := by omega
      subst hz
      rw [grpH_zero, List.nil_append] at he
      have hsv : SlV 1 (fun b' o => Has (fun _ _ => False) [(b1, Obj.cells cs'.toArray 171 (0, 0))] b' o) (.slice (some ⟨b1, 0 + k * 1, none⟩) (10 - k) (10 - k)) (u8s suf) := by
        refine ⟨_, _, _, rfl, by simp; omega, .inr ⟨b1, _, cs', _, _, rfl, m0, fun j hj => ?_⟩⟩
        rw [← hdr, List.getElem?_drop, Nat.zero_add, Nat.mul_one]
      refine q (slA (L := k) (H := 10) Try.underlying171 sz5 rfl rfl rfl (by omega) (by omega) (by omega)) ?_
      obtain ⟨p3, n3, cap3, rfl, hl3⟩ := hO.toI.len
      simp only [List.length_map, Nat.mul_one] at hl3
      subst hl3
      refine oPerm (l' := l ++ [(b1, .cells cs'.toArray 171 (0, 0))]) (permC fun a => by simp only [cnt_cons, cnt_append, cnt_nil]; omega) ?_
      refine eo (eAp (m := 10 - k) (ys := u8s suf) [] Try.underlying136 in5 (by decide) rfl rfl rfl hO (fun a => rfl) (fun a => by simp only [cnt_nil]; omega) (fun w hr => hsv.src (fun b' o' h => h.elim (fun h => h.elim) fun h => .inr (List.mem_append_right _ h)) hr Try.underlying136 (all_one_map _ fun _ => rfl)) (by omega) (by omega)) ?_
      rintro v2 l2 ⟨bk2, hO2, rfl⟩
      refine q (asg rfl) ?_
      refine enD (dBn (dSq ?_))
      refine reg ?_
      refine q (by first | exact bAddi rfl rfl (by omega) | exact bAdd rfl rfl) ?_
      refine q (mv rfl) ?_
      refine enD ?_
      rw [← he, ← List.map_append, ← numV_take hx] at hO2
      exact dLp (m' := ns.length - (i + 1)) (e' := [(3, v2), (8, .slice (some ⟨b, o, none⟩) ns.length cap), (9, .int .i64 ns.length), (10, .int .i64 ((i + 1 : Nat) : Int))]) (by omega) (by repeat first | exact Sub.nil | refine Sub.cons rfl ?_) ⟨i + 1, v2, rfl, by omega, by rwa [List.append_nil], rfl⟩
  · refine exi (dSe (dLe (dBe (dSq ?_))))
    refine seq ?_
    refine reg ?_
    refine q (mv rfl) ?_
    rw [List.take_of_length_le (by omega)] at hO
    refine q (cvBS Try.underlying136 Try.underlying5 Try.underlying9 rfl (hO.toI.toV (R := fun b o => Has (fun _ _ => False) l b o) fun x hx => .inr hx) (fun b o h => h.elim (fun h => h.elim) .inr)) ?_
    refine q (asg rfl) ?_
    refine en ?_
    refine ret ?_
    exact finQ [] rfl rfl (fun a => by first | (simp only [cnt_append, cnt_cons, cnt_nil, id]; done) | (simp only [cnt_append, cnt_cons, cnt_nil, id]; omega)) ⟨rfl, rfl⟩

