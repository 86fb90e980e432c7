import Derived.Test.YtoecfgldnlglnaaXCr
set_option linter.unusedVariables false
set_option linter.unusedSimpArgs false
set_option maxRecDepth 20000
namespace Go.Proofs.Ytoecfgldnlglnaa
open Go Go.Wk Go.Wk.Num
theorem pThereN {R c M} {i : Nat} (h : RdC R c M) (hI : CI M) (hi : i < 4) : Tri Try.prog 76 [(.pointer (some ⟨c, 0, none⟩)), .int .u8 (i : Nat)] R [] fun v l' => v = .bool (decide (0 < (M.q i).keys)) ∧ l' = [] := by
  have h1 : (UInt8.ofNat i).toNat = i := u8_ofNat (by omega)
  have h2 := (pThere (s := UInt8.ofNat i) h hI (by omega)).mono (S' := fun v l' => v = .bool (decide (0 < (M.q i).keys)) ∧ l' = []) fun v l' ⟨a, b⟩ => ⟨by rw [a]; exact congrArg Value.bool (decide_eq_decide.2 (by unfold CM.there; rw [h1])), b⟩
  rwa [show u8V (UInt8.ofNat i) = .int .u8 (i : Nat) by unfold u8V; rw [h1]] at h2
theorem u64_int {n : Int} (h : 0 ≤ n) (h2 : n < 1000) : IntKind.u64.wrap n = (n.toNat : Nat) := by
  have : n = (n.toNat : Nat) := by omega
  rw [this, u64_mod, Int.toNat_natCast]; congr 1; omega
theorem z1u64 : ∃ zv, Zr Try.prog 128 zv ∧ ((Array.range (1 * 1)).map (zv.cells[· % zv.cells.size]!)) = List.toArray [Value.int .u64 0] := ⟨_, zr128, by kernel_rfl⟩
theorem z4u64 : ∃ zv, Zr Try.prog 128 zv ∧ ((Array.range (4 * 1)).map (zv.cells[· % zv.cells.size]!)) = List.toArray [Value.int .u64 0, .int .u64 0, .int .u64 0, .int .u64 0] := ⟨_, zr128, by kernel_rfl⟩
theorem slN {R : Rd} {b E n : Nat} {cs : List Value} (h : cs.length = n) (hR : R b (.cells cs.toArray E (0, 0))) : SlV 1 R (.slice (some ⟨b, 0, none⟩) n n) cs :=
  ⟨_, n, n, rfl, by simp [h], .inr ⟨b, 0, _, _, _, rfl, hR, fun j hj => by simp⟩⟩
theorem wQ_len {q : Quo} (h : q = Q0 ∨ q.right) : (wQ q).length ≤ 41 := by
  unfold wQ
  split
  · have := numV_len (ns := numsQ q) (fun n hn => by
      rcases h with rfl | h
      · simp [numsQ, Q0] at hn; rw [hn]; decide
      · unfold Quo.right at h
        unfold M64
        simp [numsQ] at hn
        rcases hn with rfl | rfl | rfl | rfl <;> omega)
    simp [numsQ] at this ⊢; omega
  · simp
theorem q_ok {M : CM} (hI : CI M) (i : Nat) : M.q i = Q0 ∨ (M.q i).right := by
  unfold CM.q
  rw [List.getD_eq_getElem?_getD]
  by_cases hi : i < M.qs.length
  · rw [List.getElem?_eq_getElem hi]; exact hI.q _ (List.getElem_mem hi)
  · rw [List.getElem?_eq_none (by omega)]; exact .inl rfl
theorem wqs_take {M : CM} (hI : CI M) {i : Nat} (hi : i < 4) : (M.qs.take (i + 1)).flatMap wQ = (M.qs.take i).flatMap wQ ++ wQ (M.q i) := by
  have h : i < M.qs.length := by rw [hI.len]; exact hi
  rw [List.take_succ_eq_append_getElem h, List.flatMap_append]
  unfold CM.q
  rw [List.getD_eq_getElem?_getD, List.getElem?_eq_getElem h]; simp
theorem numsQ_lt {q : Quo} (h : q.right) : ∀ n ∈ numsQ q, n < M64 := fun n hn => by
  unfold Quo.right at h
  unfold M64
  simp [numsQ] at hn
  rcases hn with rfl | rfl | rfl | rfl <;> omega
theorem sorted_toks {M : CM} (hI : CI M) {ts : List Tok} (h : ts.Perm (M.ps.map (·.tok))) : ts.mergeSort tle = M.ps.map (·.tok) := by
  refine List.Perm.eq_of_pairwise (le := fun a b => tle a b = true) (fun a b _ _ h1 h2 => ?_) (List.pairwise_mergeSort ?_ ?_ ts) ?_ ((List.mergeSort_perm ts tle).trans h)
  · by_cases e : a = b
    · exact e
    · have h1 : tlt b a = false := by simpa using h1
      have h2 : tlt a b = false := by simpa using h2
      have := tlt_tri h1 (fun e' => e e'.symm)
      rw [h2] at this; cases this
  · intro a b c h1 h2
    have h1 : tlt b a = false := by simpa using h1
    have h2 : tlt c b = false := by simpa using h2
    have := swo_tcf.ntrans c b a (by rw [lt_tcf]; exact h2) (by rw [lt_tcf]; exact h1)
    rw [lt_tcf] at this
    simpa using this
  · intro a b
    cases h1 : tlt b a with
    | false => simp [h1]
    | true => have := sLt_asymm h1; simp [this]
  · rw [List.pairwise_map]
    exact hI.sd.imp fun h => by have := sLt_asymm h; simpa using this
theorem tokC_u8 (t : Tok) : tokC t = u8s (tokB t) := rfl
theorem wps_take {ps : List Prn} {i : Nat} {p : Prn} (h : ps[i]? = some p) : (ps.take (i + 1)).flatMap wP = (ps.take i).flatMap wP ++ wP p := by
  have hi := (List.getElem?_eq_some_iff.1 h).1
  rw [List.take_succ_eq_append_getElem hi, List.flatMap_append, (List.getElem?_eq_some_iff.1 h).2]; simp
theorem wps_len (ps : List Prn) : (ps.flatMap wP).length = 10 * ps.length := by
  induction ps with
  | nil => rfl
  | cons p ps ih =>
    have h8 : p.tok.1.data.size = 8 := p.tok.2
    rw [List.flatMap_cons, List.length_append, ih]; simp [wP, tokB, h8]; omega
theorem pWrite {R c M} (h : RdC R c M) (hI : CI M) : Tri Try.prog 35 [(.pointer (some ⟨c, 0, none⟩))] R [] fun v l' => v = bs M.write ∧ l' = [] := by
  have hr := h
  obtain ⟨m, kv, ck, hc, hm, hk⟩ := h
  have h16 : (catC M.qs m)[0 + 16]? = some (.map (some m)) := catC_map hI.len
  have hA := catC_all (m := m) hI.len
  have hkl : (ents tokV kv).size = M.ps.length := by
    have := (hk.keys hI).length_eq
    simp only [List.length_map] at this
    simp [ents, this]
  refine enter Try.func35 rfl rfl (by kernel_rfl) rfl fun w0 => ?_
  refine seq ?_
  refine reg ?_
  refine q (asg rfl) ?_
  refine en ?_
  refine seq ?_
  refine seq ?_
  refine reg ?_
  refine q (mv rfl) ?_
  refine cl0v fb75 rfl (pNone (hr.mono fun b o h => .inl h) hI) ?_
  refine en ?_
  refine ifF rfl ?_
  refine skp (dSq ?_)
  refine seq ?_
  refine reg ?_
  refine q (asg rfl) ?_
  refine en ?_
  refine seq ?_
  refine seq ?_
  refine reg ?_
  refine q (mv rfl) ?_
  refine q (nck rfl) ?_
  refine q (fa fo123_0 rfl) ?_
  refine q (ldA ag121 rfl (by first | exact mR (by assumption) | repeat (first | assumption | exact m0 | apply mS | apply mA)) (by first | assumption | repeat constructor)) ?_
  refine q (mv rfl) ?_
  refine en ?_
  refine blk ?_
  refine cSub (e' := [(0, (.pointer (some ⟨c, 0, none⟩))), (3, bs []), (14, .agg (M.qs.map quoC).flatten.toArray), (15, .int .i64 0)]) (by repeat first | exact Sub.nil | refine Sub.cons rfl ?_) ?_
  refine loop (fun m' e l => ∃ i : Nat, m' = 4 - i ∧ i ≤ 4 ∧ e = [(0, (.pointer (some ⟨c, 0, none⟩))), (3, bs ((M.qs.take i).flatMap wQ)), (14, .agg (M.qs.map quoC).flatten.toArray), (15, .int .i64 (i : Nat))] ∧ ((M.qs.take i).flatMap wQ).length ≤ 41 * i) 4 ⟨0, rfl, by omega, by simp, by simp⟩ ?_
  rintro m' _ l ⟨i, rfl, hi, rfl, hlen⟩
  refine seq ?_
  refine reg ?_
  refine q (bLss rfl rfl) ?_
  refine en ?_
  refine seq ?_
  refine ifd rfl (fun hlt => ?_) (fun hlt => ?_)
  · have hlt : i < 4 := by omega
    refine skp (dSq ?_)
    refine seq ?_
    refine blk ?_
    refine seq ?_
    refine reg ?_
    refine q (mv rfl) ?_
    refine q (ixAA Try.underlying121 ag67 rfl rfl (by omega) (by omega) (by rw [Int.toNat_natCast]; exact qfl_tk hI.len hlt)) ?_
    refine al zr67 rfl ?_
    intro b1
    refine q (asg rfl) ?_
    refine stA sz67 rfl rfl rfl rfl (by repeat (first | exact .h | apply In.t | apply In.r)) (by first | assumption | repeat constructor) ?_
    refine en ?_
    refine seq ?_
    refine seq ?_
    refine reg ?_
    refine q (mv rfl) ?_
    refine q (mv rfl) ?_
    refine q (cvN i i Try.underlying3 Try.underlying5 rfl (by rw [u8_mod]; congr 1; omega)) ?_
    refine cl0v fb76 rfl (pThereN (hr.mono fun b o h => .inl h) hI hlt) ?_
    refine q (by first | exact bNotd rfl | exact bNot rfl) ?_
    refine en ?_
    have hw := wqs_take hI hlt
    refine ifd rfl (fun ht => ?_) (fun ht => ?_)
    · have e0 : wQ (M.q i) = [0] := by unfold wQ; rw [if_neg ht]
      rw [e0] at hw
      refine seq ?_
      refine reg ?_
      refine q (mv rfl) ?_
      refine q (sAdd rfl rfl (by rw [bs_size]; show _ + 1 ≤ _; omega)) ?_
      refine q (asg rfl) ?_
      refine en ?_
      refine exi (dSe (dBe (dSq ?_)))
      refine reg ?_
      refine q (by first | exact bAddi rfl rfl (by omega) | exact bAdd rfl rfl) ?_
      refine q (mv rfl) ?_
      refine enD ?_
      rw [show (⟨#[0]⟩ : ByteArray) = ⟨[(0 : UInt8)].toArray⟩ from rfl, bs_app, ← hw]
      refine dLp (m' := 4 - (i + 1)) (e' := [(0, (.pointer (some ⟨c, 0, none⟩))), (3, bs ((M.qs.take (i + 1)).flatMap wQ)), (14, .agg (M.qs.map quoC).flatten.toArray), (15, .int .i64 ((i + 1 : Nat) : Int))]) (by omega) (by repeat first | exact Sub.nil | refine Sub.cons rfl ?_) ⟨i + 1, rfl, by omega, rfl, ?_⟩
      rw [hw, List.length_append, List.length_singleton]; omega
    · have ht : 0 < (M.q i).keys := by simpa using ht
      have hrt : (M.q i).right := (q_ok hI i).resolve_left fun e => by rw [e] at ht; simp [Q0] at ht
      have hq := hrt
      unfold Quo.right at hq
      have hwl := wQ_len (q_ok hI i)
      have e1 : wQ (M.q i) = 1 :: numV (numsQ (M.q i)) := by unfold wQ; rw [if_pos ht]
      refine skp (dSq ?_)
      refine reg ?_
      refine q (mv rfl) ?_
      refine q (fa fo67_0 rfl) ?_
      refine q (ld na3 rfl (by first | exact mR (by assumption) | repeat (first | assumption | exact m0 | apply mS | apply mA)) (by first | rfl | assumption)) ?_
      refine q ((cvI Try.underlying3 Try.underlying128 rfl).to (u := .int .u64 ((M.q i).keys.toNat : Nat)) (congrArg (Value.int .u64) (u64_int (n := (M.q i).keys) (by omega) (by omega)))) ?_
      refine q (fa fo67_1 rfl) ?_
      refine q (ld na3 rfl (by first | exact mR (by assumption) | repeat (first | assumption | exact m0 | apply mS | apply mA)) (by first | rfl | assumption)) ?_
      refine q ((cvI Try.underlying3 Try.underlying128 rfl).to (u := .int .u64 ((M.q i).bytes.toNat : Nat)) (congrArg (Value.int .u64) (u64_int (n := (M.q i).bytes) (by omega) (by omega)))) ?_
      refine q (fa fo67_2 rfl) ?_
      refine q (ld na3 rfl (by first | exact mR (by assumption) | repeat (first | assumption | exact m0 | apply mS | apply mA)) (by first | rfl | assumption)) ?_
      refine q ((cvI Try.underlying3 Try.underlying128 rfl).to (u := .int .u64 ((M.q i).rate.toNat : Nat)) (congrArg (Value.int .u64) (u64_int (n := (M.q i).rate) (by omega) (by omega)))) ?_
      refine q (fa fo67_3 rfl) ?_
      refine q (ld na3 rfl (by first | exact mR (by assumption) | repeat (first | assumption | exact m0 | apply mS | apply mA)) (by first | rfl | assumption)) ?_
      refine q ((cvI Try.underlying3 Try.underlying128 rfl).to (u := .int .u64 ((M.q i).burst.toNat : Nat)) (congrArg (Value.int .u64) (u64_int (n := (M.q i).burst) (by omega) (by omega)))) ?_
      refine eo (eBs Try.underlying154 sz128 z4u64 ⟨by decide, by decide⟩ rfl (.c1 rfl (by decide) rfl .z (.c1 rfl (by simp) rfl (.s .z) (.c1 rfl (by simp) rfl (.s (.s .z)) (.c1 rfl (by simp) rfl (.s (.s (.s .z))) .n))))) ?_
      rintro _ _ ⟨b4, rfl, rfl⟩
      refine cl0v fb77 rfl (nV (ns := numsQ (M.q i)) (slN rfl m0) (numsQ_lt hrt) (by simp [numsQ])) ?_
      rw [e1] at hwl
      simp only [List.length_cons] at hwl
      refine q (sAdd rfl rfl (by rw [bs_size, bs_size]; simp only [List.length_cons, List.length_nil]; omega)) ?_
      rw [show (⟨#[1]⟩ : ByteArray) = ⟨[(1 : UInt8)].toArray⟩ from rfl, bs_app]
      refine q (sAdd rfl rfl (by rw [bs_size, bs_size]; simp only [List.length_append, List.length_singleton]; omega)) ?_
      refine q (asg rfl) ?_
      refine enD (dBn (dSq ?_))
      refine reg ?_
      refine q (by first | exact bAddi rfl rfl (by omega) | exact bAdd rfl rfl) ?_
      refine q (mv rfl) ?_
      refine enD ?_
      rw [bs_app, show ([1] : List UInt8) ++ numV (numsQ (M.q i)) = wQ (M.q i) by rw [e1]; rfl, ← hw]
      refine dSub [] (fun a => by first | (simp only [cnt_append, cnt_cons, cnt_nil, id]; done) | (simp only [cnt_append, cnt_cons, cnt_nil, id]; omega)) (dLp (m' := 4 - (i + 1)) (e' := [(0, (.pointer (some ⟨c, 0, none⟩))), (3, bs ((M.qs.take (i + 1)).flatMap wQ)), (14, .agg (M.qs.map quoC).flatten.toArray), (15, .int .i64 ((i + 1 : Nat) : Int))]) (by omega) (by repeat first | exact Sub.nil | refine Sub.cons rfl ?_) ⟨i + 1, rfl, by omega, rfl, ?_⟩)
      rw [hw, List.length_append, e1, List.length_cons]; omega
  · have h4 : i = 4 := by omega
    subst h4
    rw [List.take_of_length_le (by rw [hI.len]; omega)] at hlen
    rw [List.take_of_length_le (l := M.qs) (by rw [hI.len]; omega)]
    have hpl := hI.len16'
    refine exi (dSe (dLe (dBe (dSq ?_))))
    refine seq ?_
    refine reg ?_
    refine q (mv rfl) ?_
    refine q (mv rfl) ?_
    refine q (nck rfl) ?_
    refine q (fa fo123_1 rfl) ?_
    refine q (ld na120 rfl (by first | exact mR (by assumption) | repeat (first | assumption | exact m0 | apply mS | apply mA)) (by first | rfl | assumption)) ?_
    refine q ((lnM Try.underlying120 rfl (.inl hm)).to (by rw [hkl])) ?_
    refine q (cvN M.ps.length M.ps.length Try.underlying3 Try.underlying128 rfl (by rw [u64_mod]; congr 1; omega)) ?_
    refine eo (eBs Try.underlying154 sz128 z1u64 ⟨by decide, by decide⟩ rfl (.c1 rfl (by decide) rfl .z .n)) ?_
    rintro _ _ ⟨b5, rfl, rfl⟩
    refine cl0v fb77 rfl (nV (ns := [M.ps.length]) (slN rfl m0) (fun n hn => by rw [List.mem_singleton.1 hn]; unfold M64; omega) (by simp)) ?_
    have e5 : numV [M.ps.length] = oneL M.ps.length := by simp [numV]
    have h5 := (oneL_len (n := M.ps.length) (by unfold M64; omega)).1
    refine q (sAdd rfl rfl (by rw [bs_size, bs_size, e5]; omega)) ?_
    rw [bs_app, e5]
    refine q (asg rfl) ?_
    refine en ?_
    refine seq ?_
    refine reg ?_
    refine q (mv rfl) ?_
    refine q (nck rfl) ?_
    refine q (fa fo123_1 rfl) ?_
    refine q (ld na120 rfl (by first | exact mR (by assumption) | repeat (first | assumption | exact m0 | apply mS | apply mA)) (by first | rfl | assumption)) ?_
    refine cl0 fb79 rfl (tKeys (m := m)) ?_
    rintro _ _ ⟨k, rfl, rfl⟩
    refine cl0 fb78 rfl (tSorted m0 (.inl hm) hk.ok (by have := (hk.keys hI).length_eq; simp only [List.length_map] at this; omega)) ?_
    rintro vs nw ⟨ts, hp, hO⟩
    rw [sorted_toks hI (hp.trans (hk.keys hI))] at hO
    obtain ⟨p, cap, rfl⟩ := hO.val kTok
    rw [List.length_map] at hO ⊢
    refine q (asg rfl) ?_
    refine en ?_
    refine seq ?_
    refine seq ?_
    refine reg ?_
    refine q (mv rfl) ?_
    refine q (lnL Try.underlying77 rfl) ?_
    refine q (mv rfl) ?_
    refine en ?_
    refine blk ?_
    refine cSubl (List.sublist_append_left _ _) (cSub (e' := [(0, (.pointer (some ⟨c, 0, none⟩))), (3, bs (M.qs.flatMap wQ ++ oneL M.ps.length)), (60, .slice p M.ps.length cap), (61, .int .i64 M.ps.length), (62, .int .i64 0)]) (by repeat first | exact Sub.nil | refine Sub.cons rfl ?_) ?_)
    refine loop (fun m' e l => ∃ i : Nat, m' = M.ps.length - i ∧ i ≤ M.ps.length ∧ e = [(0, (.pointer (some ⟨c, 0, none⟩))), (3, bs (M.qs.flatMap wQ ++ oneL M.ps.length ++ (M.ps.take i).flatMap wP)), (60, .slice p M.ps.length cap), (61, .int .i64 M.ps.length), (62, .int .i64 (i : Nat))] ∧ l = nw) M.ps.length ⟨0, rfl, by omega, by simp, rfl⟩ ?_
    rintro m' _ _ ⟨i, rfl, hi, rfl, rfl⟩
    refine seq ?_
    refine reg ?_
    refine q (bLss rfl rfl) ?_
    refine en ?_
    refine seq ?_
    refine ifd rfl (fun hlt => ?_) (fun hlt => ?_)
    · have hlt : i < M.ps.length := by omega
      have hx := List.getElem?_eq_getElem hlt
      generalize M.ps[i] = pr at hx
      have hxt : (M.ps.map (·.tok))[i]? = some pr.tok := by rw [List.getElem?_map, hx]; rfl
      obtain ⟨b, cs, vs, rfl, _, rfl, rfl, hj, hT, _, _⟩ := hO.at kTok hxt
      have hlk := look_some hI.sd (List.mem_of_getElem? hx)
      have hgk : (getK kv pr.tok).getD (.agg (List.toArray [.int .u8 0, .int .u8 0])) = .agg (prnC (pr.slot, pr.role)).toArray := by rw [hk.get, hlk]; rfl
      have hTt : Tk 0 8 (tokC pr.tok) (tokC pr.tok) := tkAll (tokC_len pr.tok)
      refine skp (dSq ?_)
      refine seq ?_
      refine blk ?_
      refine seq ?_
      refine reg ?_
      refine q (ia Try.underlying77 sz65 rfl rfl (by omega) (by omega)) ?_
      refine q (ldA ag65 rfl (by first | exact mR (by assumption) | repeat (first | assumption | exact m0 | apply mS | apply mA)) (by first | assumption | repeat constructor)) ?_
      refine al zr65 rfl ?_
      intro b2
      refine stA sz65 rfl rfl (tokC_len pr.tok) (tokC_one pr.tok) .h (upAll (by rw [tokC_len]; rfl)) ?_
      refine en ?_
      refine drw (by kernel_rfl) [(.q, 0), (.q, 1), (.q, 2), (.q, 3), (.q, 4), (.q, 5), (.q, 6), (.q, 7), (.q, 8), (.q, 9), (.q, 10), (.q, 11), (.q, 12), (.q, 13), (.q, 14), (.q, 15), (.q, 16), (.b, 17), (.q, 18), (.q, 19), (.q, 20), (.q, 21)] _ rfl (by kernel_rfl) (by kernel_rfl) trivial ?_
      refine xq rfl (mv rfl) ?_
      refine xq rfl (slA (L := 0) (H := 8) Try.underlying65 sz5 rfl rfl rfl (by omega) (by omega) (by omega)) ?_
      refine xq rfl (cvBS Try.underlying136 Try.underlying5 Try.underlying9 rfl (slN (n := 8) (tokC_len pr.tok) (R := fun b o => Has R [(b2, Obj.cells (tokC pr.tok).toArray 65 (0, 0))] b o) m0) (fun b o h => h.imp id fun h => List.mem_cons.2 (.inl (List.mem_singleton.1 h)))) ?_
      refine xq rfl (mv rfl) ?_
      refine xq rfl (nck rfl) ?_
      refine xq rfl (fa fo123_1 rfl) ?_
      refine xq rfl (ld na120 rfl (by first | exact mR (by assumption) | repeat (first | assumption | exact m0 | apply mS | apply mA)) (by first | rfl | assumption)) ?_
      refine xq rfl (ldA ag65 rfl (by first | exact mR (by assumption) | repeat (first | assumption | exact m0 | apply mS | apply mA)) (by first | assumption | repeat constructor)) ?_
      refine xq rfl ((lk Try.underlying120 tokKey zr134 rfl rfl (.inl hm)).to hgk) ?_
      refine xq rfl (fd1 Try.underlying134 rfl na5 rfl rfl) ?_
      refine xq rfl (mv rfl) ?_
      refine xq rfl (nck rfl) ?_
      refine xq rfl (fa fo123_1 rfl) ?_
      refine xq rfl (ld na120 rfl (by first | exact mR (by assumption) | repeat (first | assumption | exact m0 | apply mS | apply mA)) (by first | rfl | assumption)) ?_
      refine xq rfl (ldA ag65 rfl (by first | exact mR (by assumption) | repeat (first | assumption | exact m0 | apply mS | apply mA)) (by first | assumption | repeat constructor)) ?_
      refine xq rfl ((lk Try.underlying120 tokKey zr134 rfl rfl (.inl hm)).to hgk) ?_
      refine xq rfl (fd1 Try.underlying134 rfl na5 rfl rfl) ?_
      refine xb rfl (eBs Try.underlying136 sz5 ⟨_, zr5, z2u8⟩ ⟨by decide, by decide⟩ rfl (.c1 rfl (by decide) rfl .z (.c1 rfl (by simp) rfl (.s .z) .n))) extA ?_
      rintro _ _ ⟨b3, rfl, rfl⟩
      refine xq rfl (cvBS (bs := [pr.slot, pr.role]) Try.underlying136 Try.underlying5 Try.underlying9 rfl (slN (n := 2) (cs := u8s [pr.slot, pr.role]) rfl (R := fun b o => Has R [(b3, Obj.cells (List.toArray [u8V pr.slot, u8V pr.role]) 5 (0, 0))] b o) m0) (fun b o h => h.imp id fun h => List.mem_cons.2 (.inl (List.mem_singleton.1 h)))) ?_
      have h8 : (tokB pr.tok).length = 8 := by have : pr.tok.1.data.size = 8 := pr.tok.2; simp [tokB, this]
      have hwl := wps_len (M.ps.take i)
      rw [List.length_take] at hwl
      refine xq rfl (sAdd rfl rfl (by rw [bs_size, bs_size]; show (tokB pr.tok).length + 2 ≤ _; rw [h8]; decide)) ?_
      rw [bs_app, show (Array.toList pr.tok.1.data) ++ [pr.slot, pr.role] = wP pr from rfl]
      refine xq rfl (sAdd rfl rfl (by rw [bs_size, bs_size]; simp only [List.length_append, wP, List.length_cons, List.length_nil, h8]; omega)) ?_
      refine xq rfl (asg rfl) ?_
      refine dBn (dSq ?_)
      refine reg ?_
      refine q (by first | exact bAddi rfl rfl (by omega) | exact bAdd rfl rfl) ?_
      refine q (mv rfl) ?_
      refine enD ?_
      rw [bs_app, List.append_assoc _ _ (wP pr), ← wps_take hx]
      refine dSub [(b, .cells cs.toArray 65 (0, 0))] (fun a => by first | (simp only [cnt_append, cnt_cons, cnt_nil, id]; done) | (simp only [cnt_append, cnt_cons, cnt_nil, id]; omega)) (dLp (m' := M.ps.length - (i + 1)) (e' := [(0, (.pointer (some ⟨c, 0, none⟩))), (3, bs (M.qs.flatMap wQ ++ oneL M.ps.length ++ (M.ps.take (i + 1)).flatMap wP)), (60, .slice (some ⟨b, 0, none⟩) M.ps.length cap), (61, .int .i64 M.ps.length), (62, .int .i64 ((i + 1 : Nat) : Int))]) (by omega) (by repeat first | exact Sub.nil | refine Sub.cons rfl ?_) ⟨i + 1, rfl, by omega, rfl, rfl⟩)
    · refine exi (dSe (dLe (dBe (dSq ?_))))
      refine seq ?_
      refine reg ?_
      refine q (mv rfl) ?_
      refine q (asg rfl) ?_
      refine en ?_
      refine ret ?_
      rw [List.take_of_length_le (by omega)]
      refine finQ [] rfl rfl (fun a => by first | (simp only [cnt_append, cnt_cons, cnt_nil, id]; done) | (simp only [cnt_append, cnt_cons, cnt_nil, id]; omega)) ⟨?_, rfl⟩
      unfold CM.write
      rw [List.append_assoc]

