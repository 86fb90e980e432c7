import Derived.Test.YtoecfgldnlglnaaXEc
set_option linter.unusedVariables false
set_option linter.unusedSimpArgs false
set_option maxRecDepth 20000
namespace Go.Wk
open Go
section
variable {c : Cx} {e : Env} {l : Bl} {x y : Operand} {T E : TypeId} {α : Type}
theorem Ef.mono {d : Option Tmp} {op : Op} {S S' : Value → Bl → Prop} (h : Ef c l d op e S) (hs : ∀ v l', S v l' → S' v l') : Ef c l d op e S' := fun F w hv a ha ty pos aft g => by
  rcases h F w hv a ha ty pos aft g with ⟨v, l', w', h1, h2, h3⟩ | ⟨l', w', h1, h2, h3⟩ | ⟨f, args, h1, h2⟩
  · exact .inl ⟨v, l', w', h1, hs _ _ h2, h3⟩
  · exact .inr (.inl ⟨l', w', h1, hs _ _ h2, h3⟩)
  · exact .inr (.inr ⟨f, args, h1, h2.mono fun en w' ⟨v, l', h3, h4, h5⟩ => ⟨v, l', h3, hs _ _ h4, h5⟩⟩)
/-- A literal of one element. -/
theorem eBsO {d1 n by' : Nat} {zv yv : Value} {vs : List Value} (hT : c.P.underlying T = some (.slice E)) (hi : Inf c.P E zv n by') (hzs : zv.cells.size = n) (hl : vs.length = n) (hn0 : 0 < n) (hn : n ≤ 16777216) (hy : ev e y = some yv) (hyv : yv.cells = vs.toArray) :
    Ef c l (some d1) (.buildSlice T 1 #[(0, y)]) e fun v l' => ∃ b, v = .slice (some ⟨b, 0, none⟩) 1 1 ∧ l' = (b, .cells vs.toArray E (0, 0)) :: l := by
  have hfill : Fill (fun i => some (i * n, n)) [(0, yv)] ((Array.range (1 * n)).map (zv.cells[· % zv.cells.size]!)).toList vs := by
    have hu := OSl.at.UpM.any (cs := ((Array.range (1 * n)).map (zv.cells[· % zv.cells.size]!)).toList) (k := 0) (vs := vs) (by simp; omega)
    have e : ((Array.range (1 * n)).map (zv.cells[· % zv.cells.size]!)).toList.take 0 ++ vs ++ ((Array.range (1 * n)).map (zv.cells[· % zv.cells.size]!)).toList.drop (0 + vs.length) = vs := by
      rw [List.drop_of_length_le (by simp; omega)]; simp
    rw [e] at hu
    exact .c (by simp [hl]) (by omega) hyv hu .n
  exact eBs (sz := n) hT hi.sz ⟨zv, hi.zr, (Array.toArray_toList).symm⟩ ⟨by omega, by omega⟩ (ps := [(0, y)]) (vs := [(0, yv)]) (by simp [evs, hy]) hfill
/-- 'append(out, x)', of such a literal. -/
theorem eApE {dd n m cap by' b : Nat} {p : Option Addr} {xs : List α} {a : α} {M : Rd} {Rep : Rd → List Value → α → Prop} {bk : Bl} {zv : Value} {vs : List Value} (l2 : Bl) (hT : c.P.underlying T = some (.slice E)) (hi : Inf c.P E zv n by') (hzs : zv.cells.size = n) (k : RepK n Rep)
    (h : OSl E n Rep M (.slice p m cap) xs bk) (hr : Rep M vs a) (hlim : (m + 1) * by' ≤ 140737488355328) (hlim2 : m + 1 ≤ 1099511627776) (hx : ev e x = some (.slice p m cap)) (hy : ev e y = some (.slice (some ⟨b, 0, none⟩) 1 1)) (pl : ∀ a, cnt a l = cnt a (bk ++ (b, .cells vs.toArray E (0, 0)) :: l2)) :
    Ef c l (some dd) (.call ⟨.builtin .append, #[x, y], #[T, T]⟩) e fun v l' => ∃ bk', OSl E n Rep M v (xs ++ [a]) bk' ∧ l' = bk' ++ l2 := by
  have hl := k.len _ _ _ hr
  have hmem : (b, Obj.cells vs.toArray E (0, 0)) ∈ l := cnt_mem (by rw [pl]; simp only [cnt_append, cnt_cons]; have : isB (b, Obj.cells vs.toArray E (0, 0)) (b, Obj.cells vs.toArray E (0, 0)) = 1 := by simp [isB]
                                                                    omega)
  obtain ⟨css, h1, h2⟩ := h
  refine (eAp (m := 1) (ys := vs) (yv := .slice (some ⟨b, 0, none⟩) 1 1) l2 hT hi k.pos hzs hx hy h1 (l2 := (b, .cells vs.toArray E (0, 0)) :: l2) pl (fun a => by simp only [cnt_cons]; omega)
    (fun w hr' => SlV.src (M := fun b' o => (b', o) ∈ [(b, Obj.cells vs.toArray E (0, 0))]) ⟨_, 1, _, rfl, by omega, .inr ⟨b, 0, vs, E, (0, 0), rfl, by simp, fun j _ => by simp⟩⟩ (fun b' o' hb => .inr (by rw [List.mem_singleton.1 hb]; exact hmem)) hr' hT (k.one _ _ _ hr)) hlim hlim2).mono ?_
  rintro v l' ⟨bk', ho, rfl⟩
  exact ⟨bk', OSl.app h2 (.cons hr .nil) (by simpa using ho), rfl⟩
end
end Go.Wk
namespace Go.Proofs.Ytoecfgldnlglnaa
open Go Go.Wk Go.Wk.Num
theorem tens_rem {M : CM} (hI : CI M) {s : UInt8} (hs : s.toNat < 4) : (tens M.qs).filter (·.1 ≠ s) = tens (M.qs.set s.toNat Q0) := by
  obtain ⟨a, b, c, d, e⟩ := hI.of_len
  rw [e]
  have z0 : (0 : UInt8).toNat = 0 := rfl
  have z1 : (1 : UInt8).toNat = 1 := rfl
  have z2 : (2 : UInt8).toNat = 2 := rfl
  have z3 : (3 : UInt8).toNat = 3 := rfl
  by_cases ha : 0 < a.keys <;> by_cases hb : 0 < b.keys <;> by_cases hc : 0 < c.keys <;> by_cases hd : 0 < d.keys <;> rcases u8lt4 hs with rfl | rfl | rfl | rfl <;> simp [tensF, ha, hb, hc, hd, Q0]
theorem rRemove {R v M s} (h : RdT R v M) (hI : CI M) : Tri Try.prog 86 [v, u8V s] R [] fun v' nw => ∃ u, v' = .tuple (List.toArray [u, u8V (M.remove s).1]) ∧ RdT (fun b o => R b o ∨ (b, o) ∈ nw) u (M.remove s).2 := by
  have hr0 := h
  obtain ⟨pT, cT, pP, cP, rfl, hTs, hPs⟩ := h.val
  have hlen := hI.len16'
  have hlenT := tens_len hI
  refine enter Try.func86 rfl rfl (by kernel_rfl) rfl fun w0 => ?_
  refine seq ?_
  refine reg ?_
  refine bx rfl rfl ?_
  intro b1
  refine al zr85 rfl ?_
  intro b2
  refine q (asg rfl) ?_
  refine en ?_
  refine seq ?_
  refine seq ?_
  refine reg ?_
  refine q (mv rfl) ?_
  refine q (bGtr rfl rfl) ?_
  refine en ?_
  refine ifd rfl (fun hs => ?_) (fun hs => ?_)
  · refine seq ?_
    refine reg ?_
    refine q (ldA ag85 rfl (by first | exact mR (by assumption) | repeat (first | assumption | exact m0 | apply mS | apply mA)) (by first | assumption | repeat constructor)) ?_
    refine stA sz85 rfl rfl rfl rfl (by repeat (first | exact .h | apply In.t | apply In.r)) (by first | assumption | repeat constructor) ?_
    refine q (asg rfl) ?_
    refine en ?_
    refine ret (dSr ?_)
    have e : M.remove s = (11, M) := by unfold CM.remove; rw [if_pos (by omega)]
    rw [e]
    exact finZ [] rfl (.agg ag85 rfl m0 (tkAll rfl) (.tmp rfl .nil)) rfl (fun a => by first | (simp only [cnt_append, cnt_cons, cnt_nil, id]; done) | (simp only [cnt_append, cnt_cons, cnt_nil, id]; omega)) ⟨_, rfl, hr0.mono fun b o h => .inl h⟩
  · have hs : s.toNat < 4 := by omega
    refine skp (dSq ?_)
    refine seq ?_
    refine reg ?_
    refine q (ldA ag85 rfl (by first | exact mR (by assumption) | repeat (first | assumption | exact m0 | apply mS | apply mA)) (by first | assumption | repeat constructor)) ?_
    refine q (mv rfl) ?_
    refine cl0v fb43 rfl (rFind (hr0.mono fun b o h => .inl h) hI) ?_
    refine q (mv rfl) ?_
    refine q (ext rfl rfl) ?_
    refine q (ext rfl rfl) ?_
    refine al zr89 rfl ?_
    intro b3
    refine stA sz89 rfl rfl rfl rfl (by repeat (first | exact .h | apply In.t | apply In.r)) (by first | assumption | repeat constructor) ?_
    refine q (asg rfl) ?_
    refine en ?_
    refine seq ?_
    refine seq ?_
    refine reg ?_
    refine q (mv rfl) ?_
    refine q (by first | exact bNotd rfl | exact bNot rfl) ?_
    refine en ?_
    refine ifb rfl (fun hq => ?_) (fun hq => ?_)
    · have ht : ¬ M.there s := fun h => by
        have hq : (!(M.quota s).2) = true := hq
        rw [(quota_there hs).2 h] at hq; cases hq
      have e : M.remove s = (1, M) := by unfold CM.remove; rw [if_neg (by omega), if_pos ht]
      rw [e]
      refine seq ?_
      refine reg ?_
      refine q (ldA ag85 rfl (by first | exact mR (by assumption) | repeat (first | assumption | exact m0 | apply mS | apply mA)) (by first | assumption | repeat constructor)) ?_
      refine stA sz85 rfl rfl rfl rfl (by repeat (first | exact .h | apply In.t | apply In.r)) (by first | assumption | repeat constructor) ?_
      refine q (asg rfl) ?_
      refine en ?_
      refine ret (dSr ?_)
      exact finZ [] rfl (.agg ag85 rfl m1 (tkAll rfl) (.tmp rfl .nil)) rfl (fun a => by first | (simp only [cnt_append, cnt_cons, cnt_nil, id]; done) | (simp only [cnt_append, cnt_cons, cnt_nil, id]; omega)) ⟨_, rfl, hr0.mono fun b o h => .inl h⟩
    · have ht : M.there s := (quota_there hs).1 (by
        have hq : (!(M.quota s).2) = false := hq
        simpa using hq)
      have e : M.remove s = (0, ⟨M.qs.set s.toNat Q0, M.ps.filter (·.slot ≠ s)⟩) := by unfold CM.remove; rw [if_neg (by omega), if_neg (by simpa using ht)]
      rw [e]
      refine skp (dSq ?_)
      refine seq ?_
      refine reg ?_
      refine q (bd pl85 rfl .n) ?_
      refine al zr85 rfl ?_
      intro b4
      refine stA sz85 rfl rfl rfl rfl (by repeat (first | exact .h | apply In.t | apply In.r)) (by first | assumption | repeat constructor) ?_
      refine en ?_
      refine seq ?_
      refine seq ?_
      refine reg ?_
      refine q (asg rfl) ?_
      refine en ?_
      refine blk ?_
      refine cSub (e' := [(1, u8V s), (2, .pointer (some ⟨b1, 0, none⟩)), (4, .pointer (some ⟨b2, 0, none⟩)), (8, .pointer (some ⟨b4, 0, none⟩)), (9, .int .i64 (0 : Nat))]) (by repeat first | exact Sub.nil | refine Sub.cons rfl ?_) ?_
      refine cSubl (List.Sublist.cons_cons _ (List.sublist_cons_self _ _)) ?_
      refine loop (fun m' e l => ∃ (i : Nat) (vO : Value) (bk : Bl), m' = (tens M.qs).length - i ∧ i ≤ (tens M.qs).length ∧ OSl 152 5 (Flat tenC) (fun _ _ => False) vO (((tens M.qs).take i).filter (fun p : UInt8 × Quo => decide (p.1 ≠ s))) bk ∧ e = [(1, u8V s), (2, .pointer (some ⟨b1, 0, none⟩)), (4, .pointer (some ⟨b2, 0, none⟩)), (8, .pointer (some ⟨b4, 0, none⟩)), (9, .int .i64 (i : Nat))] ∧ l = bk ++ ([(b4, .cells (List.toArray [vO, .slice none 0 0]) 85 (0, 0)), (b2, .cells (List.toArray [.slice none 0 0, .slice none 0 0]) 85 (0, 0)), (b1, .cells (List.toArray [.slice pT (tens M.qs).length cT, .slice pP M.ps.length cP]) 85 (0, 0))])) (tens M.qs).length ⟨0, _, [], rfl, by omega, OSl.nil, rfl, rfl⟩ ?_
      rintro m' _ _ ⟨i, vO, bk, rfl, hi, hO, rfl, rfl⟩
      obtain ⟨pO, cO, rfl⟩ := hO.val kTen
      have hol := filt_len (f := fun p : UInt8 × Quo => decide (p.1 ≠ s)) (ts := (tens M.qs)) (i := i)
      refine seq ?_
      refine seq ?_
      refine reg ?_
      refine q (mv rfl) ?_
      refine q (fa fo85_0 rfl) ?_
      refine q (ld na82 rfl (by first | exact mR (by assumption) | repeat (first | assumption | exact m0 | apply mS | apply mA)) (by first | rfl | assumption)) ?_
      refine q (lnL Try.underlying82 rfl) ?_
      refine q (bLss rfl rfl) ?_
      refine en ?_
      refine ifd rfl (fun hlt => ?_) (fun hlt => ?_)
      · have hlt : i < (tens M.qs).length := by omega
        have hx := List.getElem?_eq_getElem hlt
        generalize (tens M.qs)[i] = p at hx
        have hsn := filt_snoc (f := fun p : UInt8 × Quo => decide (p.1 ≠ s)) hx
        obtain ⟨b', o, cs, E, fz, vs, rfl, _, hR, rfl, hj, hTT⟩ := hTs.at kTen hx
        have hj0 : cs[o + ((i : Nat) : Int).toNat * 5 + 0]? = some (u8V p.1) := hj 0 (by decide)
        refine skp (dSq ?_)
        refine seq ?_
        refine blk ?_
        refine seq ?_
        refine reg ?_
        refine q (fa fo85_0 rfl) ?_
        refine q (ld na82 rfl (by first | exact mR (by assumption) | repeat (first | assumption | exact m0 | apply mS | apply mA)) (by first | rfl | assumption)) ?_
        refine q (mv rfl) ?_
        refine q (ia Try.underlying82 sz152 rfl rfl (by omega) (by omega)) ?_
        refine q (fa fo152_0 rfl) ?_
        refine q (ld na5 rfl (by first | exact mR (by assumption) | repeat (first | assumption | exact m0 | apply mS | apply mA)) (by first | rfl | assumption)) ?_
        refine q (mv rfl) ?_
        refine q (bNeq rfl rfl) ?_
        refine en ?_
        refine ifd rfl (fun hne => ?_) (fun hne => ?_)
        · have hne' : (fun p : UInt8 × Quo => decide (p.1 ≠ s)) p = true := decide_eq_true fun e => hne (by rw [e])
          rw [if_pos hne'] at hsn
          refine drw (by kernel_rfl) [(.q, 0), (.q, 1), (.q, 2), (.q, 3), (.q, 4), (.q, 5), (.q, 6), (.b, 7), (.s, 8), (.q, 9), (.s, 10)] _ rfl (by kernel_rfl) (by kernel_rfl) trivial ?_
          refine xq rfl (fa fo85_0 rfl) ?_
          refine xq rfl (ld na82 rfl (by first | exact mR (by assumption) | repeat (first | assumption | exact m0 | apply mS | apply mA)) (by first | rfl | assumption)) ?_
          refine xq rfl (fa fo85_0 rfl) ?_
          refine xq rfl (ld na82 rfl (by first | exact mR (by assumption) | repeat (first | assumption | exact m0 | apply mS | apply mA)) (by first | rfl | assumption)) ?_
          refine xq rfl (mv rfl) ?_
          refine xq rfl (ia Try.underlying82 sz152 rfl rfl (by omega) (by omega)) ?_
          refine xq rfl (ldA ag152 rfl (by first | exact mR (by assumption) | repeat (first | assumption | exact m0 | apply mS | apply mA)) (by first | assumption | repeat constructor)) ?_
          refine xb rfl (eBsO Try.underlying82 in152 rfl rfl (by decide) (by decide) rfl rfl) extA ?_
          rintro _ _ ⟨b5, rfl, rfl⟩
          refine xs rfl (eApE ([(b4, .cells (List.toArray [.slice pO (((tens M.qs).take i).filter (fun p : UInt8 × Quo => decide (p.1 ≠ s))).length cO, .slice none 0 0]) 85 (0, 0)), (b2, .cells (List.toArray [.slice none 0 0, .slice none 0 0]) 85 (0, 0)), (b1, .cells (List.toArray [.slice (some ⟨b', o, none⟩) (tens M.qs).length cT, .slice pP M.ps.length cP]) 85 (0, 0))]) Try.underlying82 in152 rfl kTen hO (a := p) rfl (by omega) (by omega) rfl rfl (fun a => by first | (simp only [cnt_append, cnt_cons, cnt_nil, id]; done) | (simp only [cnt_append, cnt_cons, cnt_nil, id]; omega))) ?_
          rintro _ _ ⟨bk2, hO2, rfl⟩
          rw [← hsn] at hO2
          obtain ⟨pO2, cO2, e2⟩ := hO2.val kTen
          subst e2
          refine xq rfl (fa fo85_0 rfl) ?_
          refine xs rfl (eSt sz82 rfl rfl rfl (by repeat (first | exact .h | apply In.t | apply In.r)) (by first | assumption | repeat constructor)) ?_
          rintro _ _ rfl
          refine dBn (dSq ?_)
          refine reg ?_
          refine q (mv rfl) ?_
          refine q (by first | exact bAddi rfl rfl (by omega) | exact bAdd rfl rfl) ?_
          refine q (asg rfl) ?_
          refine enD ?_
          exact dLp (m' := (tens M.qs).length - (i + 1)) (e' := [(1, u8V s), (2, .pointer (some ⟨b1, 0, none⟩)), (4, .pointer (some ⟨b2, 0, none⟩)), (8, .pointer (some ⟨b4, 0, none⟩)), (9, .int .i64 ((i + 1 : Nat) : Int))]) (by omega) (by repeat first | exact Sub.nil | refine Sub.cons rfl ?_) ⟨i + 1, _, bk2, rfl, by omega, hO2, rfl, rfl⟩
        · have hne' : ¬ ((fun p : UInt8 × Quo => decide (p.1 ≠ s)) p = true) := fun h => of_decide_eq_true h (u8eq.1 (by simpa using hne))
          rw [if_neg hne', List.append_nil] at hsn
          refine skp (dBn (dSq ?_))
          refine reg ?_
          refine q (mv rfl) ?_
          refine q (by first | exact bAddi rfl rfl (by omega) | exact bAdd rfl rfl) ?_
          refine q (asg rfl) ?_
          refine enD ?_
          rw [← hsn] at hO ⊢
          exact dLp (m' := (tens M.qs).length - (i + 1)) (e' := [(1, u8V s), (2, .pointer (some ⟨b1, 0, none⟩)), (4, .pointer (some ⟨b2, 0, none⟩)), (8, .pointer (some ⟨b4, 0, none⟩)), (9, .int .i64 ((i + 1 : Nat) : Int))]) (by omega) (by repeat first | exact Sub.nil | refine Sub.cons rfl ?_) ⟨i + 1, _, bk, rfl, by omega, hO, rfl, rfl⟩
      · rw [List.take_of_length_le (l := (tens M.qs)) (by omega)] at hO ⊢
        have hO1 := hO
        rw [show (tens M.qs).filter (fun p : UInt8 × Quo => decide (p.1 ≠ s)) = tens (M.qs.set s.toNat Q0) from tens_rem hI hs] at hO1 ⊢
        generalize hbk : bk = bkT at hO1 ⊢
        generalize hpA : pO = pA at hO1 ⊢
        generalize hcA : cO = cA at hO1 ⊢
        have hsT : RSl 5 (Flat tenC) (fun b o => R b o ∨ (b, o) ∈ bkT) (.slice pA (tens (M.qs.set s.toNat Q0)).length cA) (tens (M.qs.set s.toNat Q0)) := hO1.toR kTen (fun _ _ h => h.elim) (fun x hx => .inr hx)
        clear hpA hcA hO hbk
        refine exi (dSe (dLe (dBe (dSq ?_))))
        refine seq ?_
        refine seq ?_
        refine reg ?_
        refine q (asg rfl) ?_
        refine en ?_
        refine blk ?_
        refine cPerm (l' := [] ++ ((b4, .cells (List.toArray [.slice pA (tens (M.qs.set s.toNat Q0)).length cA, .slice none 0 0]) 85 (0, 0)) :: (b2, .cells (List.toArray [.slice none 0 0, .slice none 0 0]) 85 (0, 0)) :: (b1, .cells (List.toArray [.slice pT (tens M.qs).length cT, .slice pP M.ps.length cP]) 85 (0, 0)) :: bkT)) (List.perm_append_comm) ?_
        refine cSub (e' := [(1, u8V s), (2, .pointer (some ⟨b1, 0, none⟩)), (4, .pointer (some ⟨b2, 0, none⟩)), (8, .pointer (some ⟨b4, 0, none⟩)), (10, .int .i64 (0 : Nat))]) (by repeat first | exact Sub.nil | refine Sub.cons rfl ?_) ?_
        refine loop (fun m' e l => ∃ (i : Nat) (vO : Value) (bk : Bl), m' = M.ps.length - i ∧ i ≤ M.ps.length ∧ OSl 149 3 (Flat prnR) (fun _ _ => False) vO ((M.ps.take i).filter (fun p : Prn => decide (p.slot ≠ s))) bk ∧ e = [(1, u8V s), (2, .pointer (some ⟨b1, 0, none⟩)), (4, .pointer (some ⟨b2, 0, none⟩)), (8, .pointer (some ⟨b4, 0, none⟩)), (10, .int .i64 (i : Nat))] ∧ l = bk ++ ((b4, .cells (List.toArray [.slice pA (tens (M.qs.set s.toNat Q0)).length cA, vO]) 85 (0, 0)) :: (b2, .cells (List.toArray [.slice none 0 0, .slice none 0 0]) 85 (0, 0)) :: (b1, .cells (List.toArray [.slice pT (tens M.qs).length cT, .slice pP M.ps.length cP]) 85 (0, 0)) :: bkT)) M.ps.length ⟨0, _, [], rfl, by omega, OSl.nil, rfl, rfl⟩ ?_
        rintro m' _ _ ⟨i, vO, bk, rfl, hi, hO, rfl, rfl⟩
        obtain ⟨pO, cO, rfl⟩ := hO.val kPrn
        have hol := filt_len (f := fun p : Prn => decide (p.slot ≠ s)) (ts := M.ps) (i := i)
        refine seq ?_
        refine seq ?_
        refine reg ?_
        refine q (mv rfl) ?_
        refine q (fa fo85_1 rfl) ?_
        refine q (ld na83 rfl (by first | exact mR (by assumption) | repeat (first | assumption | exact m0 | apply mS | apply mA)) (by first | rfl | assumption)) ?_
        refine q (lnL Try.underlying83 rfl) ?_
        refine q (bLss rfl rfl) ?_
        refine en ?_
        refine ifd rfl (fun hlt => ?_) (fun hlt => ?_)
        · have hlt : i < M.ps.length := by omega
          have hx := List.getElem?_eq_getElem hlt
          generalize M.ps[i] = p at hx
          have hsn := filt_snoc (f := fun p : Prn => decide (p.slot ≠ s)) hx
          obtain ⟨b', o, cs, E, fz, vs, rfl, _, hR, rfl, hj, hTT⟩ := hPs.at kPrn hx
          have hj0 : cs[o + ((i : Nat) : Int).toNat * 3 + 1]? = some (u8V p.slot) := hj 1 (by decide)
          refine skp (dSq ?_)
          refine seq ?_
          refine blk ?_
          refine seq ?_
          refine reg ?_
          refine q (fa fo85_1 rfl) ?_
          refine q (ld na83 rfl (by first | exact mR (by assumption) | repeat (first | assumption | exact m0 | apply mS | apply mA)) (by first | rfl | assumption)) ?_
          refine q (mv rfl) ?_
          refine q (ia Try.underlying83 sz149 rfl rfl (by omega) (by omega)) ?_
          refine q (fa fo149_1 rfl) ?_
          refine q (ld na5 rfl (by first | exact mR (by assumption) | repeat (first | assumption | exact m0 | apply mS | apply mA)) (by first | rfl | assumption)) ?_
          refine q (mv rfl) ?_
          refine q (bNeq rfl rfl) ?_
          refine en ?_
          refine ifd rfl (fun hne => ?_) (fun hne => ?_)
          · have hne' : (fun p : Prn => decide (p.slot ≠ s)) p = true := decide_eq_true fun e => hne (by rw [e])
            rw [if_pos hne'] at hsn
            refine drw (by kernel_rfl) [(.q, 0), (.q, 1), (.q, 2), (.q, 3), (.q, 4), (.q, 5), (.q, 6), (.b, 7), (.s, 8), (.q, 9), (.s, 10)] _ rfl (by kernel_rfl) (by kernel_rfl) trivial ?_
            refine xq rfl (fa fo85_1 rfl) ?_
            refine xq rfl (ld na83 rfl (by first | exact mR (by assumption) | repeat (first | assumption | exact m0 | apply mS | apply mA)) (by first | rfl | assumption)) ?_
            refine xq rfl (fa fo85_1 rfl) ?_
            refine xq rfl (ld na83 rfl (by first | exact mR (by assumption) | repeat (first | assumption | exact m0 | apply mS | apply mA)) (by first | rfl | assumption)) ?_
            refine xq rfl (mv rfl) ?_
            refine xq rfl (ia Try.underlying83 sz149 rfl rfl (by omega) (by omega)) ?_
            refine xq rfl (ldA ag149 rfl (by first | exact mR (by assumption) | repeat (first | assumption | exact m0 | apply mS | apply mA)) (by first | assumption | repeat constructor)) ?_
            refine xb rfl (eBsO Try.underlying83 in149 rfl rfl (by decide) (by decide) rfl rfl) extA ?_
            rintro _ _ ⟨b5, rfl, rfl⟩
            refine xs rfl (eApE ((b4, .cells (List.toArray [.slice pA (tens (M.qs.set s.toNat Q0)).length cA, .slice pO ((M.ps.take i).filter (fun p : Prn => decide (p.slot ≠ s))).length cO]) 85 (0, 0)) :: (b2, .cells (List.toArray [.slice none 0 0, .slice none 0 0]) 85 (0, 0)) :: (b1, .cells (List.toArray [.slice pT (tens M.qs).length cT, .slice (some ⟨b', o, none⟩) M.ps.length cP]) 85 (0, 0)) :: bkT) Try.underlying83 in149 rfl kPrn hO (a := p) rfl (by omega) (by omega) rfl rfl (fun a => by first | (simp only [cnt_append, cnt_cons, cnt_nil, id]; done) | (simp only [cnt_append, cnt_cons, cnt_nil, id]; omega))) ?_
            rintro _ _ ⟨bk2, hO2, rfl⟩
            rw [← hsn] at hO2
            obtain ⟨pO2, cO2, e2⟩ := hO2.val kPrn
            subst e2
            refine xq rfl (fa fo85_1 rfl) ?_
            refine xs rfl (eSt sz83 rfl rfl rfl (by repeat (first | exact .h | apply In.t | apply In.r)) (by first | assumption | repeat constructor)) ?_
            rintro _ _ rfl
            refine dBn (dSq ?_)
            refine reg ?_
            refine q (mv rfl) ?_
            refine q (by first | exact bAddi rfl rfl (by omega) | exact bAdd rfl rfl) ?_
            refine q (asg rfl) ?_
            refine enD ?_
            exact dLp (m' := M.ps.length - (i + 1)) (e' := [(1, u8V s), (2, .pointer (some ⟨b1, 0, none⟩)), (4, .pointer (some ⟨b2, 0, none⟩)), (8, .pointer (some ⟨b4, 0, none⟩)), (10, .int .i64 ((i + 1 : Nat) : Int))]) (by omega) (by repeat first | exact Sub.nil | refine Sub.cons rfl ?_) ⟨i + 1, _, bk2, rfl, by omega, hO2, rfl, rfl⟩
          · have hne' : ¬ ((fun p : Prn => decide (p.slot ≠ s)) p = true) := fun h => of_decide_eq_true h (u8eq.1 (by simpa using hne))
            rw [if_neg hne', List.append_nil] at hsn
            refine skp (dBn (dSq ?_))
            refine reg ?_
            refine q (mv rfl) ?_
            refine q (by first | exact bAddi rfl rfl (by omega) | exact bAdd rfl rfl) ?_
            refine q (asg rfl) ?_
            refine enD ?_
            rw [← hsn] at hO ⊢
            exact dLp (m' := M.ps.length - (i + 1)) (e' := [(1, u8V s), (2, .pointer (some ⟨b1, 0, none⟩)), (4, .pointer (some ⟨b2, 0, none⟩)), (8, .pointer (some ⟨b4, 0, none⟩)), (10, .int .i64 ((i + 1 : Nat) : Int))]) (by omega) (by repeat first | exact Sub.nil | refine Sub.cons rfl ?_) ⟨i + 1, _, bk, rfl, by omega, hO, rfl, rfl⟩
        · rw [List.take_of_length_le (l := M.ps) (by omega)] at hO ⊢
          refine exi (dSe (dLe (dBe (dSq ?_))))
          refine seq ?_
          refine reg ?_
          refine q (ldA ag85 rfl (by first | exact mR (by assumption) | repeat (first | assumption | exact m0 | apply mS | apply mA)) (by first | assumption | repeat constructor)) ?_
          refine stA sz85 rfl rfl rfl rfl (by repeat (first | exact .h | apply In.t | apply In.r)) (by first | assumption | repeat constructor) ?_
          refine q (asg rfl) ?_
          refine en ?_
          refine ret ?_
          refine finZ (bk ++ bkT) rfl (.agg ag85 rfl (mA (by repeat (first | exact m0 | apply mS))) (tkAll rfl) (.tmp rfl .nil)) rfl (fun a => by first | (simp only [cnt_append, cnt_cons, cnt_nil, id]; done) | (simp only [cnt_append, cnt_cons, cnt_nil, id]; omega)) ⟨_, rfl, ⟨_, _, rfl, hsT.mono kTen fun b o h => h.imp id (List.mem_append_right _), hO.toR kPrn (fun _ _ h => h.elim) (fun x hx => .inr (List.mem_append_left _ hx))⟩⟩

