import Derived.Test.YtoecfgldnlglnaaXEa
set_option linter.unusedVariables false
set_option linter.unusedSimpArgs false
set_option maxRecDepth 20000
namespace Go.Proofs.Ytoecfgldnlglnaa
open Go Go.Wk Go.Wk.Num
section
variable {α : Type} (gt : α → Bool) (x : α)
/-- Put ahead of the first that is greater. -/
def insG : List α → List α
  | [] => [x]
  | p :: ps => if gt p then x :: p :: ps else p :: insG ps
theorem insG_end : ∀ {ts : List α}, (∀ p ∈ ts, gt p = false) → insG gt x ts = ts ++ [x]
  | [], _ => rfl
  | p :: ts, h => by rw [insG, if_neg (by rw [h p (List.mem_cons_self ..)]; decide), insG_end fun q hq => h q (List.mem_cons_of_mem _ hq)]; rfl
theorem insG_mid : ∀ {A : List α} {p : α} {B : List α}, (∀ q ∈ A, gt q = false) → gt p = true → insG gt x (A ++ p :: B) = A ++ x :: p :: B
  | [], p, B, _, h => by rw [List.nil_append, insG, if_pos h]; rfl
  | a :: A, p, B, h, hp => by rw [List.cons_append, insG, if_neg (by rw [h a (List.mem_cons_self ..)]; decide), insG_mid (fun q hq => h q (List.mem_cons_of_mem _ hq)) hp]; rfl
structure InsR (ts : List α) (i : Nat) (d : Bool) (out : List α) : Prop where
  t : d = true → out ++ ts.drop i = insG gt x ts
  f : d = false → out = ts.take i ∧ ∀ p ∈ ts.take i, gt p = false
structure InsM (ts : List α) (i : Nat) (d : Bool) (out : List α) : Prop where
  t : d = true → out ++ ts.drop i = insG gt x ts
  f : d = false → out = ts.take i ∧ ∀ p ∈ ts.take (i + 1), gt p = false
variable {gt x} {ts : List α} {i : Nat} {d : Bool} {out : List α} {p : α}
theorem insG_len : (insG gt x ts).length = ts.length + 1 := by
  induction ts with
  | nil => rfl
  | cons p ts ih => rw [insG]; split <;> simp [ih]
theorem InsR.zero : InsR gt x ts 0 false [] := ⟨(fun h => by cases h), fun _ => ⟨by simp, by simp⟩⟩
theorem InsR.len (h : InsR gt x ts i d out) (hi : i ≤ ts.length) : out.length ≤ i + 1 := by
  cases d with
  | true =>
    have := congrArg List.length (h.t rfl)
    rw [insG_len, List.length_append, List.length_drop] at this; omega
  | false => rw [(h.f rfl).1, List.length_take]; omega
theorem InsM.len (h : InsM gt x ts i d out) (hi : i ≤ ts.length) : out.length ≤ i + 1 := by
  cases d with
  | true =>
    have := congrArg List.length (h.t rfl)
    rw [insG_len, List.length_append, List.length_drop] at this; omega
  | false => rw [(h.f rfl).1, List.length_take]; omega
theorem tk_snoc (hx : ts[i]? = some p) : ts.take (i + 1) = ts.take i ++ [p] := by
  rw [List.take_succ_eq_append_getElem (List.getElem?_eq_some_iff.1 hx).1, (List.getElem?_eq_some_iff.1 hx).2]
theorem dr_cons (hx : ts[i]? = some p) : ts.drop i = p :: ts.drop (i + 1) := by
  rw [List.drop_eq_getElem_cons (List.getElem?_eq_some_iff.1 hx).1, (List.getElem?_eq_some_iff.1 hx).2]
theorem InsR.ins (h : InsR gt x ts i false out) (hx : ts[i]? = some p) (hg : gt p = true) : InsM gt x ts i true (out ++ [x]) := by
  obtain ⟨h1, h2⟩ := h.f rfl
  refine ⟨fun _ => ?_, fun h => by cases h⟩
  have e : ts = ts.take i ++ p :: ts.drop (i + 1) := by rw [← dr_cons hx, List.take_append_drop]
  have := insG_mid gt x (B := ts.drop (i + 1)) h2 hg
  rw [← e] at this
  rw [this, h1, dr_cons hx]; simp
theorem InsR.not (h : InsR gt x ts i d out) (hx : ts[i]? = some p) (hg : d = false → gt p = false) : InsM gt x ts i d out :=
  ⟨h.t, fun hd => ⟨(h.f hd).1, fun q hq => by
    rw [tk_snoc hx] at hq
    rcases List.mem_append.1 hq with hq | hq
    · exact (h.f hd).2 q hq
    · rw [List.mem_singleton.1 hq]; exact hg hd⟩⟩
theorem InsM.next (h : InsM gt x ts i d out) (hx : ts[i]? = some p) : InsR gt x ts (i + 1) d (out ++ [p]) :=
  ⟨fun hd => by rw [← h.t hd, dr_cons hx]; simp, fun hd => ⟨by rw [(h.f hd).1, tk_snoc hx], (h.f hd).2⟩⟩
theorem InsR.endT (h : InsR gt x ts ts.length true out) : out = insG gt x ts := by
  have := h.t rfl
  rwa [List.drop_length, List.append_nil] at this
theorem InsR.endF (h : InsR gt x ts ts.length false out) : out ++ [x] = insG gt x ts := by
  obtain ⟨h1, h2⟩ := h.f rfl
  rw [List.take_length] at h1 h2
  rw [h1, insG_end gt x h2]
end
def sumT (ts : List (UInt8 × Quo)) : Int × Int × Int := (sumK (ts.map (·.2)), sumB (ts.map (·.2)), sumR (ts.map (·.2)))
theorem tens_sum {M : CM} (hI : CI M) : sumK ((tens M.qs).map (·.2)) = sumK M.qs ∧ sumB ((tens M.qs).map (·.2)) = sumB M.qs ∧ sumR ((tens M.qs).map (·.2)) = sumR M.qs := by
  have gen : ∀ (qs : List Quo) (i : Nat), (∀ q ∈ qs, q = Q0 ∨ q.right) → sumK ((tensF i qs).map (·.2)) = sumK qs ∧ sumB ((tensF i qs).map (·.2)) = sumB qs ∧ sumR ((tensF i qs).map (·.2)) = sumR qs := by
    intro qs
    induction qs with
    | nil => intro i _; exact ⟨rfl, rfl, rfl⟩
    | cons q qs ih =>
      intro i h
      obtain ⟨h1, h2, h3⟩ := ih (i + 1) fun q hq => h q (List.mem_cons_of_mem _ hq)
      simp only [sumK, sumB, sumR] at h1 h2 h3 ⊢
      rw [tensF]
      split
      · simp only [List.map_cons, List.sum_cons, h1, h2, h3, and_self]
      · rename_i hk
        rcases h q (List.mem_cons_self ..) with rfl | hr
        · simp only [List.map_cons, List.sum_cons, h1, h2, h3, Q0, Int.zero_add, and_self]
        · unfold Quo.right at hr; omega
  exact gen M.qs 0 hI.q
theorem tens_mem {M : CM} (hI : CI M) {p : UInt8 × Quo} (hp : p ∈ tens M.qs) : p.2.right := by
  have gen : ∀ (qs : List Quo) (i : Nat), (∀ q ∈ qs, q = Q0 ∨ q.right) → p ∈ tensF i qs → p.2.right := by
    intro qs
    induction qs with
    | nil => intro i _ h; cases h
    | cons q qs ih =>
      intro i h hp
      rw [tensF] at hp
      split at hp
      · rename_i hk
        rcases List.mem_cons.1 hp with rfl | hp
        · rcases h q (List.mem_cons_self ..) with e | e
          · rw [e] at hk; simp [Q0] at hk
          · exact e
        · exact ih _ (fun q hq => h q (List.mem_cons_of_mem _ hq)) hp
      · exact ih _ (fun q hq => h q (List.mem_cons_of_mem _ hq)) hp
  exact gen M.qs 0 hI.q hp
theorem tens_ins {M : CM} (hI : CI M) {s : UInt8} (hs : s.toNat < 4) (h0 : M.q s.toNat = Q0) {x : Quo} (hx : x.right) : insG (fun p => decide (s.toNat < p.1.toNat)) (s, x) (tens M.qs) = tens (M.qs.set s.toNat x) := by
  obtain ⟨a, b, c, d, e⟩ := hI.of_len
  have hxk : 0 < x.keys := by unfold Quo.right at hx; omega
  unfold CM.q at h0
  rw [e] at h0 ⊢
  have e0 : (UInt8.ofNat 0).toNat = 0 := rfl
  have e1 : (UInt8.ofNat 1).toNat = 1 := rfl
  have e2 : (UInt8.ofNat 2).toNat = 2 := rfl
  have e3 : (UInt8.ofNat 3).toNat = 3 := rfl
  have z0 : (0 : UInt8).toNat = 0 := rfl
  have z1 : (1 : UInt8).toNat = 1 := rfl
  have z2 : (2 : UInt8).toNat = 2 := rfl
  have z3 : (3 : UInt8).toNat = 3 := rfl
  rcases u8lt4 hs with rfl | rfl | rfl | rfl
  · simp only [z0, List.getD_cons_zero] at h0
    subst h0
    by_cases hb : 0 < b.keys <;> by_cases hc : 0 < c.keys <;> by_cases hd : 0 < d.keys <;> simp [tensF, insG, hb, hc, hd, hxk, Q0]
  · simp only [z1, List.getD_cons_succ, List.getD_cons_zero] at h0
    subst h0
    by_cases hb : 0 < a.keys <;> by_cases hc : 0 < c.keys <;> by_cases hd : 0 < d.keys <;> simp [tensF, insG, hb, hc, hd, hxk, Q0]
  · simp only [z2, List.getD_cons_succ, List.getD_cons_zero] at h0
    subst h0
    by_cases hb : 0 < a.keys <;> by_cases hc : 0 < b.keys <;> by_cases hd : 0 < d.keys <;> simp [tensF, insG, hb, hc, hd, hxk, Q0]
  · simp only [z3, List.getD_cons_succ, List.getD_cons_zero] at h0
    subst h0
    by_cases hb : 0 < a.keys <;> by_cases hc : 0 < b.keys <;> by_cases hd : 0 < c.keys <;> simp [tensF, insG, hb, hc, hd, hxk, Q0]
theorem quota_there {M : CM} {s : UInt8} (hs : s.toNat < 4) : (M.quota s).2 = true ↔ M.there s := by
  unfold CM.quota
  by_cases h : M.there s
  · rw [if_pos ⟨hs, h⟩]; simp [h]
  · rw [if_neg (fun h' => h h'.2)]; simp [h]
theorem rCreate {R v M s x} (h : RdT R v M) (hI : CI M) : Tri Try.prog 85 [v, u8V s, quoV x] R [] (fun v' nw => ∃ u, v' = .tuple (List.toArray [u, u8V (M.create s x).1]) ∧ RdT (fun b o => R b o ∨ (b, o) ∈ nw) u (M.create s x).2) := by
  have hr0 := h
  obtain ⟨pT, cT, pP, cP, rfl, hTs, hPs⟩ := h.val
  have hsame : ∀ code, M.create s x = (code, M) → ∀ w, w = u8V code → ∃ u, (Value.tuple (List.toArray [.agg (List.toArray [.slice pT (tens M.qs).length cT, .slice pP M.ps.length cP]), w])) = .tuple (List.toArray [u, u8V (M.create s x).1]) ∧ RdT (fun b o => R b o ∨ (b, o) ∈ ([] : Bl)) u (M.create s x).2 := fun code e w hw => by
    rw [e]; exact ⟨_, by rw [hw], hr0.mono fun b o h => .inl h⟩
  refine enter Try.func85 rfl rfl (by kernel_rfl) rfl fun w0 => ?_
  refine seq ?_
  refine reg ?_
  refine bx rfl rfl ?_
  intro b1
  refine bx rfl rfl ?_
  intro b2
  refine al zr85 rfl ?_
  intro b3
  refine q (asg rfl) ?_
  refine en ?_
  refine seq ?_
  refine seq ?_
  refine reg ?_
  refine q (mv rfl) ?_
  refine q (bGtr rfl rfl) ?_
  refine q (mv rfl) ?_
  refine decd (t := 18) rfl (fun hs => ?_) (fun hs => ?_)
  · first | refine gF rfl rfl rfl ?_ | refine gU rfl rfl ?_
    first | refine gF rfl rfl rfl ?_ | refine gU rfl rfl ?_
    first | refine gF rfl rfl rfl ?_ | refine gU rfl rfl ?_
    refine q (by first | exact pkT rfl rfl | exact pkF rfl rfl) ?_
    refine en ?_
    refine ifT rfl ?_
    refine seq ?_
    refine reg ?_
    refine q (ldA ag85 rfl (by first | exact mR (by assumption) | repeat (first | assumption | exact m0 | apply mS | apply mA)) (by first | assumption | repeat constructor)) ?_
    refine stA sz85 rfl rfl rfl rfl (by repeat (first | exact .h | apply In.t | apply In.r)) (by first | assumption | repeat constructor) ?_
    refine q (asg rfl) ?_
    refine en ?_
    refine ret (dSr ?_)
    exact finZ [] rfl (.agg ag85 rfl m0 (tkAll rfl) (.tmp rfl .nil)) rfl (fun a => by first | (simp only [cnt_append, cnt_cons, cnt_nil, id]; done) | (simp only [cnt_append, cnt_cons, cnt_nil, id]; omega)) (hsame 11 (by unfold CM.create; rw [if_pos (.inl (by omega))]) _ rfl)
  · have hs : s.toNat < 4 := by omega
    refine gT rfl rfl ?_
    refine q (ldA ag89 rfl (by first | exact mR (by assumption) | repeat (first | assumption | exact m0 | apply mS | apply mA)) (by first | assumption | repeat constructor)) ?_
    refine gT rfl rfl ?_
    refine cl0v fb45 rfl rRight ?_
    refine gT rfl rfl ?_
    refine q (by first | exact bNotd rfl | exact bNot rfl) ?_
    refine q (by first | exact pkT rfl rfl | exact pkF rfl rfl) ?_
    refine en ?_
    refine ifd rfl (fun hr => ?_) (fun hr => ?_)
    · refine seq ?_
      refine reg ?_
      refine q (ldA ag85 rfl (by first | exact mR (by assumption) | repeat (first | assumption | exact m0 | apply mS | apply mA)) (by first | assumption | repeat constructor)) ?_
      refine stA sz85 rfl rfl rfl rfl (by repeat (first | exact .h | apply In.t | apply In.r)) (by first | assumption | repeat constructor) ?_
      refine q (asg rfl) ?_
      refine en ?_
      refine ret (dSr ?_)
      exact finZ [] rfl (.agg ag85 rfl m0 (tkAll rfl) (.tmp rfl .nil)) rfl (fun a => by first | (simp only [cnt_append, cnt_cons, cnt_nil, id]; done) | (simp only [cnt_append, cnt_cons, cnt_nil, id]; omega)) (hsame 11 (by unfold CM.create; rw [if_pos (.inr hr)]) _ rfl)
    · have hr : x.right := by simpa using hr
      refine skp (dSq ?_)
      refine seq ?_
      refine reg ?_
      refine q (ldA ag85 rfl (by first | exact mR (by assumption) | repeat (first | assumption | exact m0 | apply mS | apply mA)) (by first | assumption | repeat constructor)) ?_
      refine q (mv rfl) ?_
      refine cl0v fb43 rfl (rFind (hr0.mono fun b o h => .inl h) hI) ?_
      refine q (mv rfl) ?_
      refine q (ext rfl rfl) ?_
      refine q (ext rfl rfl) ?_
      refine al zr89 rfl ?_
      intro b4
      refine stA sz89 rfl rfl rfl rfl (by repeat (first | exact .h | apply In.t | apply In.r)) (by first | assumption | repeat constructor) ?_
      refine q (asg rfl) ?_
      refine en ?_
      refine seq ?_
      refine seq ?_
      refine reg ?_
      refine q (mv rfl) ?_
      refine en ?_
      refine ifb rfl (fun hq => ?_) (fun hq => ?_)
      · have ht := (quota_there hs).1 hq
        refine seq ?_
        refine reg ?_
        refine q (ldA ag85 rfl (by first | exact mR (by assumption) | repeat (first | assumption | exact m0 | apply mS | apply mA)) (by first | assumption | repeat constructor)) ?_
        refine stA sz85 rfl rfl rfl rfl (by repeat (first | exact .h | apply In.t | apply In.r)) (by first | assumption | repeat constructor) ?_
        refine q (asg rfl) ?_
        refine en ?_
        refine ret (dSr ?_)
        exact finZ [] rfl (.agg ag85 rfl m1 (tkAll rfl) (.tmp rfl .nil)) rfl (fun a => by first | (simp only [cnt_append, cnt_cons, cnt_nil, id]; done) | (simp only [cnt_append, cnt_cons, cnt_nil, id]; omega)) (hsame 10 (by unfold CM.create; rw [if_neg (by simp [hr]; omega), if_pos ht]) _ rfl)
      · have ht : ¬ M.there s := fun h => by rw [(quota_there hs).2 h] at hq; cases hq
        have hx := hr
        unfold Quo.right at hx
        have hlen4 := tens_len hI
        have hsum0 := tens_sum hI
        have hr1 : ∀ pT, RSl 5 (Flat tenC) R (.slice pT (tens M.qs).length cT) (tens M.qs) → RdT R (.agg (List.toArray [.slice pT (tens M.qs).length cT, .slice pP M.ps.length cP])) M := fun pT h => ⟨⟨_, _, rfl, h, hPs⟩⟩
        have hins0 := fun h0 => tens_ins hI (s := s) (x := x) hs h0 hr
        generalize hts : tens M.qs = ts at hTs hlen4 hsum0 hr1 hins0
        have hmem : ∀ p ∈ ts, p.2.right := fun p hp => tens_mem hI (hts ▸ hp)
        refine skp (dSq ?_)
        refine seq ?_
        refine drw (by kernel_rfl) [(.q, 0), (.q, 1), (.q, 2), (.q, 3), (.q, 4), (.q, 5), (.q, 6), (.q, 7), (.q, 8)] _ rfl (by kernel_rfl) (by kernel_rfl) trivial ?_
        refine xq rfl (fa fo89_0 rfl) ?_
        refine xq rfl (ld na3 rfl (by first | exact mR (by assumption) | repeat (first | assumption | exact m0 | apply mS | apply mA)) (by first | rfl | assumption)) ?_
        refine xq rfl (fa fo89_1 rfl) ?_
        refine xq rfl (ld na3 rfl (by first | exact mR (by assumption) | repeat (first | assumption | exact m0 | apply mS | apply mA)) (by first | rfl | assumption)) ?_
        refine xq rfl (fa fo89_2 rfl) ?_
        refine xq rfl (ld na3 rfl (by first | exact mR (by assumption) | repeat (first | assumption | exact m0 | apply mS | apply mA)) (by first | rfl | assumption)) ?_
        refine xq rfl (asg rfl) ?_
        refine xq rfl (asg rfl) ?_
        refine xq rfl (asg rfl) ?_
        refine dSq ?_
        refine seq ?_
        refine reg ?_
        refine q (asg rfl) ?_
        refine en ?_
        refine seq ?_
        refine reg ?_
        refine q (asg rfl) ?_
        refine en ?_
        refine seq ?_
        refine seq ?_
        refine reg ?_
        refine q (asg rfl) ?_
        refine en ?_
        refine blk ?_
        refine cSub (e' := [(1, u8V s), (3, .pointer (some ⟨b1, 0, none⟩)), (5, .pointer (some ⟨b2, 0, none⟩)), (6, .pointer (some ⟨b3, 0, none⟩)), (10, .int .i64 x.keys), (11, .int .i64 x.bytes), (12, .int .i64 x.rate), (13, .slice none 0 0), (14, .bool false), (15, .int .i64 (0 : Nat))]) (by repeat first | exact Sub.nil | refine Sub.cons rfl ?_) ?_
        refine cSubl (List.sublist_cons_self _ _) ?_
        refine loop (fun m' e l => ∃ (i : Nat) (k b r : Int) (d : Bool) (vO : Value) (out : List (UInt8 × Quo)) (bk : Bl), m' = ts.length - i ∧ i ≤ ts.length ∧ k = x.keys + sumK ((ts.take i).map (·.2)) ∧ b = x.bytes + sumB ((ts.take i).map (·.2)) ∧ r = x.rate + sumR ((ts.take i).map (·.2)) ∧ 0 ≤ k ∧ k ≤ 16 + 16 * i ∧ 0 ≤ b ∧ b ≤ 512 + 512 * i ∧ 0 ≤ r ∧ r ≤ 100 + 100 * i ∧ InsR (fun p => decide (s.toNat < p.1.toNat)) (s, x) ts i d out ∧ OSl 152 5 (Flat tenC) (fun _ _ => False) vO out bk ∧ e = [(1, u8V s), (3, .pointer (some ⟨b1, 0, none⟩)), (5, .pointer (some ⟨b2, 0, none⟩)), (6, .pointer (some ⟨b3, 0, none⟩)), (10, .int .i64 k), (11, .int .i64 b), (12, .int .i64 r), (13, vO), (14, .bool d), (15, .int .i64 (i : Nat))] ∧ l = bk ++ [(b3, .cells (List.toArray [.slice none 0 0, .slice none 0 0]) 85 (0, 0)), (b2, .cells (quoC x).toArray 89 (0, 0)), (b1, .cells (List.toArray [.slice pT (tens M.qs).length cT, .slice pP M.ps.length cP]) 85 (0, 0))]) ts.length ⟨0, x.keys, x.bytes, x.rate, false, _, [], [], rfl, by omega, by simp [sumK], by simp [sumB], by simp [sumR], by omega, by omega, by omega, by omega, by omega, by omega, .zero, OSl.nil, rfl, by rw [← hts]; rfl⟩ ?_
        rintro m' _ _ ⟨i, k, b, r, d, vO, out, bk, rfl, hi, ek, eb, er, k1, k2, bb1, bb2, r1, r2, hins, hO, rfl, rfl⟩
        obtain ⟨pO, cO, rfl⟩ := hO.val kTen
        have hol := hins.len hi
        refine seq ?_
        refine seq ?_
        refine reg ?_
        refine q (mv rfl) ?_
        refine q (fa fo85_0 rfl) ?_
        refine q (ld na82 rfl (by first | exact mR (by assumption) | repeat (first | assumption | exact m0 | apply mS | apply mA)) (by first | rfl | assumption)) ?_
        refine q (lnL Try.underlying82 rfl) ?_
        refine q (bLss rfl rfl) ?_
        refine en ?_
        rw [hts]
        refine ifd rfl (fun hlt => ?_) (fun hlt => ?_)
        · have hlt : i < ts.length := by omega
          have hx := List.getElem?_eq_getElem hlt
          generalize ts[i] = p at hx
          have hpr := hmem p (List.mem_of_getElem? hx)
          unfold Quo.right at hpr
          have hsn : ts.take (i + 1) = ts.take i ++ [p] := tk_snoc hx
          obtain ⟨b', o, cs, E, fz, vs, rfl, _, hR, rfl, hj, hTT⟩ := hTs.at kTen hx
          have hj0 : cs[o + ((i : Nat) : Int).toNat * 5 + 0]? = some (u8V p.1) := hj 0 (by decide)
          have hj1 : cs[o + ((i : Nat) : Int).toNat * 5 + 1 + 0]? = some (.int .i64 p.2.keys) := hj 1 (by decide)
          have hj2 : cs[o + ((i : Nat) : Int).toNat * 5 + 1 + 1]? = some (.int .i64 p.2.bytes) := hj 2 (by decide)
          have hj3 : cs[o + ((i : Nat) : Int).toNat * 5 + 1 + 2]? = some (.int .i64 p.2.rate) := hj 3 (by decide)
          refine skp (dSq ?_)
          refine seq ?_
          refine blk ?_
          refine seq ?_
          refine reg ?_
          refine q (mv rfl) ?_
          refine q (fa fo85_0 rfl) ?_
          refine q (ld na82 rfl (by first | exact mR (by assumption) | repeat (first | assumption | exact m0 | apply mS | apply mA)) (by first | rfl | assumption)) ?_
          refine q (mv rfl) ?_
          refine q (ia Try.underlying82 sz152 rfl rfl (by omega) (by omega)) ?_
          refine q (fa fo152_1 rfl) ?_
          refine q (fa fo89_0 rfl) ?_
          refine q (ld na3 rfl (by first | exact mR (by assumption) | repeat (first | assumption | exact m0 | apply mS | apply mA)) (by first | rfl | assumption)) ?_
          refine q (by first | exact bAddi rfl rfl (by omega) | exact bAdd rfl rfl) ?_
          refine q (asg rfl) ?_
          refine en ?_
          refine seq ?_
          refine reg ?_
          refine q (mv rfl) ?_
          refine q (fa fo85_0 rfl) ?_
          refine q (ld na82 rfl (by first | exact mR (by assumption) | repeat (first | assumption | exact m0 | apply mS | apply mA)) (by first | rfl | assumption)) ?_
          refine q (mv rfl) ?_
          refine q (ia Try.underlying82 sz152 rfl rfl (by omega) (by omega)) ?_
          refine q (fa fo152_1 rfl) ?_
          refine q (fa fo89_1 rfl) ?_
          refine q (ld na3 rfl (by first | exact mR (by assumption) | repeat (first | assumption | exact m0 | apply mS | apply mA)) (by first | rfl | assumption)) ?_
          refine q (by first | exact bAddi rfl rfl (by omega) | exact bAdd rfl rfl) ?_
          refine q (asg rfl) ?_
          refine en ?_
          refine seq ?_
          refine reg ?_
          refine q (mv rfl) ?_
          refine q (fa fo85_0 rfl) ?_
          refine q (ld na82 rfl (by first | exact mR (by assumption) | repeat (first | assumption | exact m0 | apply mS | apply mA)) (by first | rfl | assumption)) ?_
          refine q (mv rfl) ?_
          refine q (ia Try.underlying82 sz152 rfl rfl (by omega) (by omega)) ?_
          refine q (fa fo152_1 rfl) ?_
          refine q (fa fo89_2 rfl) ?_
          refine q (ld na3 rfl (by first | exact mR (by assumption) | repeat (first | assumption | exact m0 | apply mS | apply mA)) (by first | rfl | assumption)) ?_
          refine q (by first | exact bAddi rfl rfl (by omega) | exact bAdd rfl rfl) ?_
          refine q (asg rfl) ?_
          refine en ?_
          refine seq ?_
          refine cutJ (fun e' l' => ∃ (d' : Bool) (vO' : Value) (out' : List (UInt8 × Quo)) (bk' : Bl), InsM (fun p => decide (s.toNat < p.1.toNat)) (s, x) ts i d' out' ∧ OSl 152 5 (Flat tenC) (fun _ _ => False) vO' out' bk' ∧ e' = [(1, u8V s), (3, .pointer (some ⟨b1, 0, none⟩)), (5, .pointer (some ⟨b2, 0, none⟩)), (6, .pointer (some ⟨b3, 0, none⟩)), (10, .int .i64 (k + p.2.keys)), (11, .int .i64 (b + p.2.bytes)), (12, .int .i64 (r + p.2.rate)), (13, vO'), (14, .bool d'), (15, .int .i64 (i : Nat))] ∧ l' = bk' ++ [(b3, .cells (List.toArray [.slice none 0 0, .slice none 0 0]) 85 (0, 0)), (b2, .cells (quoC x).toArray 89 (0, 0)), (b1, .cells (List.toArray [.slice (some ⟨b', o, none⟩) ts.length cT, .slice pP M.ps.length cP]) 85 (0, 0))]) ?_ ?_
          · refine seq ?_
            refine reg ?_
            refine q (mv rfl) ?_
            refine q (by first | exact bNotd rfl | exact bNot rfl) ?_
            refine q (mv rfl) ?_
            refine dec (t := 74) rfl (fun hd => ?_) (fun hd => ?_)
            · have hd : d = false := by simpa using hd
              subst hd
              refine gT rfl rfl ?_
              refine q (fa fo85_0 rfl) ?_
              refine gT rfl rfl ?_
              refine q (ld na82 rfl (by first | exact mR (by assumption) | repeat (first | assumption | exact m0 | apply mS | apply mA)) (by first | rfl | assumption)) ?_
              refine gT rfl rfl ?_
              refine q (mv rfl) ?_
              refine gT rfl rfl ?_
              refine q (ia Try.underlying82 sz152 rfl rfl (by omega) (by omega)) ?_
              refine gT rfl rfl ?_
              refine q (fa fo152_0 rfl) ?_
              refine gT rfl rfl ?_
              refine q (ld na5 rfl (by first | exact mR (by assumption) | repeat (first | assumption | exact m0 | apply mS | apply mA)) (by first | rfl | assumption)) ?_
              refine gT rfl rfl ?_
              refine q (mv rfl) ?_
              refine gT rfl rfl ?_
              refine q (bGtr rfl rfl) ?_
              refine q (by first | exact pkT rfl rfl | exact pkF rfl rfl) ?_
              refine en ?_
              refine ifd rfl (fun hg => ?_) (fun hg => ?_)
              · refine seq ?_
                refine reg ?_
                refine q (mv rfl) ?_
                refine q (mv rfl) ?_
                refine q (ldA ag89 rfl (by first | exact mR (by assumption) | repeat (first | assumption | exact m0 | apply mS | apply mA)) (by first | assumption | repeat constructor)) ?_
                refine q (bd pl152 rfl (.c1 rfl (by first | decide | simp) rfl (by repeat constructor) (.cA rfl rfl (by first | decide | simp) (by repeat constructor) .n))) ?_
                refine apO (l2 := [(b3, .cells (List.toArray [.slice none 0 0, .slice none 0 0]) 85 (0, 0)), (b2, .cells (quoC x).toArray 89 (0, 0)), (b1, .cells (List.toArray [.slice (some ⟨b', o, none⟩) ts.length cT, .slice pP M.ps.length cP]) 85 (0, 0))]) Try.underlying82 in152 rfl kTen hO (a := (s, x)) rfl (by omega) (by omega) (by decide) (fun a => by first | (simp only [cnt_append, cnt_cons, cnt_nil, id]; done) | (simp only [cnt_append, cnt_cons, cnt_nil, id]; omega)) (fun _ => rfl) rfl rfl ?_
                intro v2 bk2 u2 hO2
                refine q (asg rfl) ?_
                refine en ?_
                refine reg ?_
                refine q (asg rfl) ?_
                refine enD ?_
                exact dJ (by repeat first | exact Sub.nil | refine Sub.cons rfl ?_) ⟨true, v2, _, bk2, hins.ins hx (decide_eq_true (by omega)), hO2, rfl, rfl⟩
              · refine skp ?_
                exact dJ (by repeat first | exact Sub.nil | refine Sub.cons rfl ?_) ⟨false, _, _, bk, hins.not hx (fun _ => decide_eq_false (by omega)), hO, rfl, rfl⟩
            · have hd : d = true := by simpa using hd
              subst hd
              first | refine gF rfl rfl rfl ?_ | refine gU rfl rfl ?_
              first | refine gF rfl rfl rfl ?_ | refine gU rfl rfl ?_
              first | refine gF rfl rfl rfl ?_ | refine gU rfl rfl ?_
              first | refine gF rfl rfl rfl ?_ | refine gU rfl rfl ?_
              first | refine gF rfl rfl rfl ?_ | refine gU rfl rfl ?_
              first | refine gF rfl rfl rfl ?_ | refine gU rfl rfl ?_
              first | refine gF rfl rfl rfl ?_ | refine gU rfl rfl ?_
              first | refine gF rfl rfl rfl ?_ | refine gU rfl rfl ?_
              refine q (by first | exact pkT rfl rfl | exact pkF rfl rfl) ?_
              refine en ?_
              refine ifF rfl ?_
              refine skp ?_
              exact dJ (by repeat first | exact Sub.nil | refine Sub.cons rfl ?_) ⟨true, _, _, bk, hins.not hx (fun h => by cases h), hO, rfl, rfl⟩
          · rintro _ _ ⟨d', vO', out', bk', hins', hO', rfl, rfl⟩
            obtain ⟨pO', cO', rfl⟩ := hO'.val kTen
            have hol' := hins'.len hi
            refine reg ?_
            refine q (mv rfl) ?_
            refine q (fa fo85_0 rfl) ?_
            refine q (ld na82 rfl (by first | exact mR (by assumption) | repeat (first | assumption | exact m0 | apply mS | apply mA)) (by first | rfl | assumption)) ?_
            refine q (mv rfl) ?_
            refine q (ia Try.underlying82 sz152 rfl rfl (by omega) (by omega)) ?_
            refine q (ldA ag152 rfl (by first | exact mR (by assumption) | repeat (first | assumption | exact m0 | apply mS | apply mA)) (by first | assumption | repeat constructor)) ?_
            refine apO (l2 := [(b3, .cells (List.toArray [.slice none 0 0, .slice none 0 0]) 85 (0, 0)), (b2, .cells (quoC x).toArray 89 (0, 0)), (b1, .cells (List.toArray [.slice (some ⟨b', o, none⟩) ts.length cT, .slice pP M.ps.length cP]) 85 (0, 0))]) Try.underlying82 in152 rfl kTen hO' (a := p) rfl (by omega) (by omega) (by decide) (fun a => by first | (simp only [cnt_append, cnt_cons, cnt_nil, id]; done) | (simp only [cnt_append, cnt_cons, cnt_nil, id]; omega)) (fun _ => rfl) rfl rfl ?_
            intro v2 bk2 u2 hO2
            refine q (asg rfl) ?_
            refine enD (dBn (dSq ?_))
            refine reg ?_
            refine q (mv rfl) ?_
            refine q (by first | exact bAddi rfl rfl (by omega) | exact bAdd rfl rfl) ?_
            refine q (asg rfl) ?_
            refine enD ?_
            have hsm : sumK ((ts.take (i + 1)).map (·.2)) = sumK ((ts.take i).map (·.2)) + p.2.keys ∧ sumB ((ts.take (i + 1)).map (·.2)) = sumB ((ts.take i).map (·.2)) + p.2.bytes ∧ sumR ((ts.take (i + 1)).map (·.2)) = sumR ((ts.take i).map (·.2)) + p.2.rate := by
              rw [hsn]; simp only [sumK, sumB, sumR, List.map_append, List.map_cons, List.map_nil, List.sum_append, List.sum_cons, List.sum_nil, Int.add_zero, and_self]
            refine dLp (m' := ts.length - (i + 1)) (e' := [(1, u8V s), (3, .pointer (some ⟨b1, 0, none⟩)), (5, .pointer (some ⟨b2, 0, none⟩)), (6, .pointer (some ⟨b3, 0, none⟩)), (10, .int .i64 (k + p.2.keys)), (11, .int .i64 (b + p.2.bytes)), (12, .int .i64 (r + p.2.rate)), (13, v2), (14, .bool d'), (15, .int .i64 ((i + 1 : Nat) : Int))]) (by omega) (by repeat first | exact Sub.nil | refine Sub.cons rfl ?_) ⟨i + 1, _, _, _, d', v2, out' ++ [p], bk2, rfl, by omega, by rw [hsm.1]; omega, by rw [hsm.2.1]; omega, by rw [hsm.2.2]; omega, by omega, by omega, by omega, by omega, by omega, by omega, hins'.next hx, hO2, rfl, rfl⟩
        · have hil : i = ts.length := by omega
          subst hil
          rw [List.take_length] at ek eb er
          have hfit : M.fits x ↔ k ≤ 48 ∧ b ≤ 1536 ∧ r ≤ 200 := by unfold CM.fits; omega
          have h0 := hI.not_there ht
          have hins0 := hins0 h0
          have e9 : ¬ M.fits x → M.create s x = (9, M) := fun h1 => by unfold CM.create; rw [if_neg (by simp [hr]; omega), if_neg ht, if_pos h1]
          have hsub : ∀ {nw : Bl} (v' : Value), OSl 152 5 (Flat tenC) (fun _ _ => False) v' (tens (M.qs.set s.toNat x)) nw → RdT (fun b o => R b o ∨ (b, o) ∈ nw) (.agg (List.toArray [v', .slice pP M.ps.length cP])) { M with qs := M.qs.set s.toNat x } := fun v' h => ⟨⟨_, _, rfl, h.toR kTen (fun _ _ h => h.elim) (fun x hx => .inr hx), hPs.mono kPrn fun b o h => .inl h⟩⟩
          refine exi (dSe (dLe (dBe (dSq ?_))))
          refine seq ?_
          refine cutJ (fun e' l' => ∃ (vO' : Value) (bk' : Bl), OSl 152 5 (Flat tenC) (fun _ _ => False) vO' (tens (M.qs.set s.toNat x)) bk' ∧ e' = [(3, .pointer (some ⟨b1, 0, none⟩)), (6, .pointer (some ⟨b3, 0, none⟩)), (10, .int .i64 k), (11, .int .i64 b), (12, .int .i64 r), (13, vO')] ∧ l' = bk' ++ [(b3, .cells (List.toArray [.slice none 0 0, .slice none 0 0]) 85 (0, 0)), (b2, .cells (quoC x).toArray 89 (0, 0)), (b1, .cells (List.toArray [.slice pT ts.length cT, .slice pP M.ps.length cP]) 85 (0, 0))]) ?_ ?_
          · refine seq ?_
            refine reg ?_
            refine q (mv rfl) ?_
            refine q (by first | exact bNotd rfl | exact bNot rfl) ?_
            refine en ?_
            refine ifb rfl (fun hd => ?_) (fun hd => ?_)
            · have hd : d = false := by simpa using hd
              subst hd
              refine reg ?_
              refine q (mv rfl) ?_
              refine q (mv rfl) ?_
              refine q (ldA ag89 rfl (by first | exact mR (by assumption) | repeat (first | assumption | exact m0 | apply mS | apply mA)) (by first | assumption | repeat constructor)) ?_
              refine q (bd pl152 rfl (.c1 rfl (by first | decide | simp) rfl (by repeat constructor) (.cA rfl rfl (by first | decide | simp) (by repeat constructor) .n))) ?_
              refine apO (l2 := [(b3, .cells (List.toArray [.slice none 0 0, .slice none 0 0]) 85 (0, 0)), (b2, .cells (quoC x).toArray 89 (0, 0)), (b1, .cells (List.toArray [.slice pT ts.length cT, .slice pP M.ps.length cP]) 85 (0, 0))]) Try.underlying82 in152 rfl kTen hO (a := (s, x)) rfl (by omega) (by omega) (by decide) (fun a => by first | (simp only [cnt_append, cnt_cons, cnt_nil, id]; done) | (simp only [cnt_append, cnt_cons, cnt_nil, id]; omega)) (fun _ => rfl) rfl rfl ?_
              intro v2 bk2 u2 hO2
              rw [hins.endF, hins0] at hO2
              refine q (asg rfl) ?_
              refine enD ?_
              exact dJ (by repeat first | exact Sub.nil | refine Sub.cons rfl ?_) ⟨v2, bk2, hO2, rfl, rfl⟩
            · have hd : d = true := by simpa using hd
              subst hd
              have eo := hins.endT.trans hins0
              subst eo
              refine skp ?_
              exact dJ (by repeat first | exact Sub.nil | refine Sub.cons rfl ?_) ⟨_, bk, hO, rfl, rfl⟩
          · rintro _ _ ⟨vO', bk', hO', rfl, rfl⟩
            obtain ⟨pO', cO', rfl⟩ := hO'.val kTen
            refine seq ?_
            refine seq ?_
            refine reg ?_
            refine q (mv rfl) ?_
            refine q (bGtr rfl rfl) ?_
            refine q (mv rfl) ?_
            refine decd (t := 108) rfl (fun hk1 => ?_) (fun hk1 => ?_)
            · first | refine gF rfl rfl rfl ?_ | refine gU rfl rfl ?_
              first | refine gF rfl rfl rfl ?_ | refine gU rfl rfl ?_
              refine q (by first | exact pkT rfl rfl | exact pkF rfl rfl) ?_
              refine q (mv rfl) ?_
              first | refine gF rfl rfl rfl ?_ | refine gU rfl rfl ?_
              first | refine gF rfl rfl rfl ?_ | refine gU rfl rfl ?_
              refine q (by first | exact pkT rfl rfl | exact pkF rfl rfl) ?_
              refine en ?_
              refine ifT rfl ?_
              refine seq ?_
              refine reg ?_
              refine q (ldA ag85 rfl (by first | exact mR (by assumption) | repeat (first | assumption | exact m0 | apply mS | apply mA)) (by first | assumption | repeat constructor)) ?_
              refine stA sz85 rfl rfl rfl rfl (by repeat (first | exact .h | apply In.t | apply In.r)) (by first | assumption | repeat constructor) ?_
              refine q (asg rfl) ?_
              refine en ?_
              refine ret (dSr ?_)
              exact finZ [] rfl (.agg ag85 rfl (mA m0) (tkAll rfl) (.tmp rfl .nil)) rfl (fun a => by first | (simp only [cnt_append, cnt_cons, cnt_nil, id]; done) | (simp only [cnt_append, cnt_cons, cnt_nil, id]; omega)) (by rw [e9 (by rw [hfit]; omega)]; exact ⟨_, rfl, (hr1 _ hTs).mono fun b o h => .inl h⟩)
            · refine gT rfl rfl ?_
              refine q (mv rfl) ?_
              refine gT rfl rfl ?_
              refine q (bGtr rfl rfl) ?_
              refine q (by first | exact pkT rfl rfl | exact pkF rfl rfl) ?_
              refine q (mv rfl) ?_
              refine decd (t := 112) rfl (fun hk2 => ?_) (fun hk2 => ?_)
              · first | refine gF rfl rfl rfl ?_ | refine gU rfl rfl ?_
                first | refine gF rfl rfl rfl ?_ | refine gU rfl rfl ?_
                refine q (by first | exact pkT rfl rfl | exact pkF rfl rfl) ?_
                refine en ?_
                refine ifT rfl ?_
                refine seq ?_
                refine reg ?_
                refine q (ldA ag85 rfl (by first | exact mR (by assumption) | repeat (first | assumption | exact m0 | apply mS | apply mA)) (by first | assumption | repeat constructor)) ?_
                refine stA sz85 rfl rfl rfl rfl (by repeat (first | exact .h | apply In.t | apply In.r)) (by first | assumption | repeat constructor) ?_
                refine q (asg rfl) ?_
                refine en ?_
                refine ret (dSr ?_)
                exact finZ [] rfl (.agg ag85 rfl (mA m0) (tkAll rfl) (.tmp rfl .nil)) rfl (fun a => by first | (simp only [cnt_append, cnt_cons, cnt_nil, id]; done) | (simp only [cnt_append, cnt_cons, cnt_nil, id]; omega)) (by rw [e9 (by rw [hfit]; omega)]; exact ⟨_, rfl, (hr1 _ hTs).mono fun b o h => .inl h⟩)
              · refine gT rfl rfl ?_
                refine q (mv rfl) ?_
                refine gT rfl rfl ?_
                refine q (bGtr rfl rfl) ?_
                refine q (by first | exact pkT rfl rfl | exact pkF rfl rfl) ?_
                refine en ?_
                refine ifd rfl (fun hk3 => ?_) (fun hk3 => ?_)
                · refine seq ?_
                  refine reg ?_
                  refine q (ldA ag85 rfl (by first | exact mR (by assumption) | repeat (first | assumption | exact m0 | apply mS | apply mA)) (by first | assumption | repeat constructor)) ?_
                  refine stA sz85 rfl rfl rfl rfl (by repeat (first | exact .h | apply In.t | apply In.r)) (by first | assumption | repeat constructor) ?_
                  refine q (asg rfl) ?_
                  refine en ?_
                  refine ret (dSr ?_)
                  exact finZ [] rfl (.agg ag85 rfl (mA m0) (tkAll rfl) (.tmp rfl .nil)) rfl (fun a => by first | (simp only [cnt_append, cnt_cons, cnt_nil, id]; done) | (simp only [cnt_append, cnt_cons, cnt_nil, id]; omega)) (by rw [e9 (by rw [hfit]; omega)]; exact ⟨_, rfl, (hr1 _ hTs).mono fun b o h => .inl h⟩)
                · refine skp (dSq ?_)
                  refine seq ?_
                  refine reg ?_
                  refine q (mv rfl) ?_
                  refine q (fa fo85_0 rfl) ?_
                  refine st sz82 rfl rfl rfl (by repeat (first | exact .h | apply In.t | apply In.r)) (by first | assumption | repeat constructor) ?_
                  refine en ?_
                  refine seq ?_
                  refine reg ?_
                  refine q (ldA ag85 rfl (by first | exact mR (by assumption) | repeat (first | assumption | exact m0 | apply mS | apply mA)) (by first | assumption | repeat constructor)) ?_
                  refine stA sz85 rfl rfl rfl rfl (by repeat (first | exact .h | apply In.t | apply In.r)) (by first | assumption | repeat constructor) ?_
                  refine q (asg rfl) ?_
                  refine en ?_
                  refine ret ?_
                  refine finZ bk' rfl (.agg ag85 rfl (mA m0) (tkAll rfl) (.tmp rfl .nil)) rfl (fun a => by first | (simp only [cnt_append, cnt_cons, cnt_nil, id]; done) | (simp only [cnt_append, cnt_cons, cnt_nil, id]; omega)) ?_
                  have e : M.create s x = (0, { M with qs := M.qs.set s.toNat x }) := by unfold CM.create; rw [if_neg (by simp [hr]; omega), if_neg ht, if_neg (by rw [hfit]; omega)]
                  rw [e]
                  exact ⟨_, rfl, hsub _ hO'⟩

