import Derived.Test.YtoecfgldnlglnaaXCm
set_option linter.unusedVariables false
set_option linter.unusedSimpArgs false
set_option maxRecDepth 20000
namespace Go.Proofs.Ytoecfgldnlglnaa
open Go Go.Wk Go.Wk.Num
/-! # The catalogue in memory -/
def catC (qs : List Quo) (m : Nat) : List Value := (qs.map quoC).flatten ++ [.map (some m)]
structure KvR (kv : Kv Tok) (ck : Nat) (ps : List Prn) : Prop where
  ok : KvOk kv ck
  get : ∀ t, getK kv t = (look ps t).map fun x => .agg (prnC x).toArray
def RdC (R : Rd) (c : Nat) (M : CM) : Prop := ∃ m kv ck, R c (.cells (List.toArray (catC M.qs m)) 123 (0, 0)) ∧ R m (.map (ents tokV kv) ck) ∧ KvR kv ck M.ps
def IsC (c : Nat) (M : CM) (l : Bl) : Prop := ∃ m kv ck, l = [(c, .cells (List.toArray (catC M.qs m)) 123 (0, 0)), (m, .map (ents tokV kv) ck)] ∧ KvR kv ck M.ps
theorem IsC.rd {c M R l l'} (h : IsC c M l) (hl : ∀ x ∈ l, Has R l' x.1 x.2) : RdC (fun b o => Has R l' b o) c M := by
  obtain ⟨m, kv, ck, rfl, hk⟩ := h
  exact ⟨m, kv, ck, hl _ (List.mem_cons_self ..), hl _ (List.mem_cons_of_mem _ (List.mem_cons_self ..)), hk⟩
theorem RdC.mono {c M} {R R' : Rd} (h : RdC R c M) (hR : ∀ b o, R b o → R' b o) : RdC R' c M := by
  obtain ⟨m, kv, ck, h1, h2, hk⟩ := h; exact ⟨m, kv, ck, hR _ _ h1, hR _ _ h2, hk⟩
theorem KvR.nil : KvR [] 0 [] := ⟨KvOk.nil, fun t => rfl⟩
theorem quoC_len (q : Quo) : (quoC q).length = 4 := rfl
theorem quoC_all {qs : List Quo} : ∀ c ∈ qs.map quoC, c.length = 4 := fun c hc => by obtain ⟨q, _, rfl⟩ := List.mem_map.1 hc; rfl
theorem qfl_len {qs : List Quo} : ((qs.map quoC).flatten).length = qs.length * 4 := by rw [flat_len quoC_all, List.length_map]
theorem catC_map {qs : List Quo} {m : Nat} (h : qs.length = 4) : (catC qs m)[16]? = some (.map (some m)) := by
  unfold catC
  rw [List.getElem?_append_right (by rw [qfl_len]; omega), qfl_len, h]; rfl
theorem catC_at {qs : List Quo} {m i j : Nat} (h : qs.length = 4) (hi : i < 4) (hj : j < 4) : (catC qs m)[i * 4 + j]? = (quoC (qs.getD i Q0))[j]? := by
  unfold catC
  rw [List.getElem?_append_left (by rw [qfl_len]; omega)]
  have h1 : (qs.map quoC)[i]? = some (quoC (qs.getD i Q0)) := by
    rw [List.getElem?_map, List.getD_eq_getElem?_getD, List.getElem?_eq_getElem (by omega)]; rfl
  exact flat_at quoC_all h1 hj
theorem catC_tk {qs : List Quo} {m i : Nat} (h : qs.length = 4) (hi : i < 4) : Tk (i * 4) 4 (catC qs m) (quoC (qs.getD i Q0)) := by
  have hT := Tk.any (off := i * 4) (n := 4) (cs := catC qs m) (by unfold catC; rw [List.length_append, qfl_len]; simp; omega)
  have e : ((catC qs m).drop (i * 4)).take 4 = quoC (qs.getD i Q0) := by
    apply List.ext_getElem?
    intro j
    by_cases hj : j < 4
    · rw [List.getElem?_take_of_lt hj, List.getElem?_drop, catC_at h hi hj]
    · rw [List.getElem?_eq_none (by rw [List.length_take]; omega), List.getElem?_eq_none (by rw [quoC_len]; omega)]
  rwa [e] at hT
theorem catC_set {qs : List Quo} {m i : Nat} (h : qs.length = 4) (hi : i < 4) (q : Quo) : UpM (catC qs m) (i * 4) (quoC q) (catC (qs.set i q) m) := by
  have hu := OSl.at.UpM.any (cs := catC qs m) (k := i * 4) (vs := quoC q) (by unfold catC; rw [List.length_append, qfl_len]; simp [quoC_len]; omega)
  have h1 : (qs.map quoC)[i]? = some (quoC (qs.getD i Q0)) := by
    rw [List.getElem?_map, List.getD_eq_getElem?_getD, List.getElem?_eq_getElem (by omega)]; rfl
  have e : (catC qs m).take (i * 4) ++ quoC q ++ (catC qs m).drop (i * 4 + (quoC q).length) = catC (qs.set i q) m := by
    have hs := set_flat quoC_all h1 (quoC_len q)
    unfold catC
    rw [List.map_set, hs, List.take_append_of_le_length (by rw [qfl_len]; omega), List.drop_append_of_le_length (by rw [qfl_len, quoC_len]; omega), quoC_len]
    simp
  rwa [e] at hu
theorem pNew {R} : Tri Try.prog 33 [] R [] fun v l' => ∃ c, v = (.pointer (some ⟨c, 0, none⟩)) ∧ IsC c CM.none l' := by
  refine enter Try.func33 rfl rfl (by kernel_rfl) rfl fun w0 => ?_
  refine seq ?_
  refine reg ?_
  refine q (asg rfl) ?_
  refine en ?_
  refine seq ?_
  refine reg ?_
  refine mkM ?_
  intro b1
  refine q (bd pl123 rfl (.c1 rfl (by first | decide | simp) rfl (by repeat constructor) .n)) ?_
  refine bx rfl rfl ?_
  intro b2
  refine q (asg rfl) ?_
  refine en ?_
  refine ret ?_
  exact finQ _ rfl rfl (fun a => Nat.le_refl _) ⟨_, rfl, _, _, _, rfl, KvR.nil⟩
theorem pNone {R c M} (h : RdC R c M) (hI : CI M) : Tri Try.prog 75 [(.pointer (some ⟨c, 0, none⟩))] R [] fun v l' => v = .bool false ∧ l' = [] := by
  obtain ⟨m, kv, ck, hc, hm, hk⟩ := h
  have h16 : (catC M.qs m)[0 + 16]? = some (.map (some m)) := catC_map hI.len
  refine enter Try.func75 rfl rfl (by kernel_rfl) rfl fun w0 => ?_
  refine seq ?_
  refine reg ?_
  refine q (asg rfl) ?_
  refine en ?_
  refine seq ?_
  refine reg ?_
  refine q (mv rfl) ?_
  refine q (eqS rfl rfl rfl (fun w => run_pnil Try.underlying60 w)) ?_
  refine q (mv rfl) ?_
  refine gT rfl rfl ?_
  refine q (mv rfl) ?_
  refine gT rfl rfl ?_
  refine q (nck rfl) ?_
  refine gT rfl rfl ?_
  refine q (fa fo123_1 rfl) ?_
  refine gT rfl rfl ?_
  refine q (ld na120 rfl (by first | exact mR (by assumption) | repeat (first | assumption | exact m0 | apply mS | apply mA)) (by first | rfl | assumption)) ?_
  refine gT rfl rfl ?_
  refine q (eqS rfl rfl rfl (fun w => run_mnil Try.underlying120 w)) ?_
  refine q (by first | exact pkT rfl rfl | exact pkF rfl rfl) ?_
  refine q (asg rfl) ?_
  refine en ?_
  refine ret ?_
  exact finQ [] rfl rfl (fun a => by first | (simp only [cnt_append, cnt_cons, cnt_nil, id]; done) | (simp only [cnt_append, cnt_cons, cnt_nil, id]; omega)) ⟨rfl, rfl⟩
theorem pThere {R c M s} (h : RdC R c M) (hI : CI M) (hs : s.toNat < 4) : Tri Try.prog 76 [(.pointer (some ⟨c, 0, none⟩)), u8V s] R [] fun v l' => v = .bool (decide (M.there s)) ∧ l' = [] := by
  obtain ⟨m, kv, ck, hc, hm, hk⟩ := h
  have h0 : (catC M.qs m)[0 + 0 + ((s.toNat : Nat) : Int).toNat * 4 + 0]? = some (.int .i64 (M.q s.toNat).keys) := by
    rw [Int.toNat_natCast, show 0 + 0 + s.toNat * 4 + 0 = s.toNat * 4 + 0 by omega, catC_at hI.len hs (by decide)]; rfl
  refine enter Try.func76 rfl rfl (by kernel_rfl) rfl fun w0 => ?_
  refine seq ?_
  refine reg ?_
  refine q (asg rfl) ?_
  refine en ?_
  refine seq ?_
  refine reg ?_
  refine q (mv rfl) ?_
  refine q (mv rfl) ?_
  refine q (nck rfl) ?_
  refine q (fa fo123_0 rfl) ?_
  refine q (iaA Try.underlying121 sz67 rfl rfl (by omega) (by omega)) ?_
  refine q (fa fo67_0 rfl) ?_
  refine q (ld na3 rfl (by first | exact mR (by assumption) | repeat (first | assumption | exact m0 | apply mS | apply mA)) (by first | rfl | assumption)) ?_
  refine q (bGtr rfl rfl) ?_
  refine q (asg rfl) ?_
  refine en ?_
  refine ret ?_
  exact finQ [] rfl rfl (fun a => by first | (simp only [cnt_append, cnt_cons, cnt_nil, id]; done) | (simp only [cnt_append, cnt_cons, cnt_nil, id]; omega)) ⟨rfl, rfl⟩
theorem pIn {R n a b} : Tri Try.prog 84 [.int .i64 n, .int .i64 a, .int .i64 b] R [] fun v l' => v = .bool (decide (a ≤ n ∧ n ≤ b)) ∧ l' = [] := by
  refine enter Try.func84 rfl rfl (by kernel_rfl) rfl fun w0 => ?_
  refine seq ?_
  refine reg ?_
  refine q (asg rfl) ?_
  refine en ?_
  refine seq ?_
  refine reg ?_
  refine q (mv rfl) ?_
  refine q (mv rfl) ?_
  refine q (bGeq rfl rfl) ?_
  refine q (mv rfl) ?_
  refine decd (t := 10) rfl (fun h => ?_) (fun h => ?_)
  · refine gT rfl rfl ?_
    refine q (mv rfl) ?_
    refine gT rfl rfl ?_
    refine q (mv rfl) ?_
    refine gT rfl rfl ?_
    refine q (bLeq rfl rfl) ?_
    refine q (by first | exact pkT rfl rfl | exact pkF rfl rfl) ?_
    refine q (asg rfl) ?_
    refine en ?_
    refine ret ?_
    exact finQ [] rfl rfl (fun a => by first | (simp only [cnt_append, cnt_cons, cnt_nil, id]; done) | (simp only [cnt_append, cnt_cons, cnt_nil, id]; omega)) ⟨by simp [h], rfl⟩
  · first | refine gF rfl rfl rfl ?_ | refine gU rfl rfl ?_
    first | refine gF rfl rfl rfl ?_ | refine gU rfl rfl ?_
    first | refine gF rfl rfl rfl ?_ | refine gU rfl rfl ?_
    refine q (by first | exact pkT rfl rfl | exact pkF rfl rfl) ?_
    refine q (asg rfl) ?_
    refine en ?_
    refine ret ?_
    exact finQ [] rfl rfl (fun a => by first | (simp only [cnt_append, cnt_cons, cnt_nil, id]; done) | (simp only [cnt_append, cnt_cons, cnt_nil, id]; omega)) ⟨by simp [h], rfl⟩
theorem pRight {R x} : Tri Try.prog 38 [quoV x] R [] fun v l' => v = .bool (decide x.right) ∧ l' = [] := by
  refine enter Try.func38 rfl rfl (by kernel_rfl) rfl fun w0 => ?_
  refine seq ?_
  refine reg ?_
  refine bx rfl rfl ?_
  intro b1
  refine q (asg rfl) ?_
  refine en ?_
  refine seq ?_
  refine reg ?_
  refine q (asg rfl) ?_
  refine en ?_
  refine seq ?_
  refine reg ?_
  refine q (mv rfl) ?_
  refine q (fa fo67_0 rfl) ?_
  refine q (ld na3 rfl (by first | exact mR (by assumption) | repeat (first | assumption | exact m0 | apply mS | apply mA)) (by first | rfl | assumption)) ?_
  refine clGv (fst := #[]) (cap := #[]) rfl rfl fb84 rfl pIn ?_
  refine q (mv rfl) ?_
  refine decd (t := 8) rfl (fun h1 => ?_) (fun h1 => ?_)
  · refine gT rfl rfl ?_
    refine q (mv rfl) ?_
    refine gT rfl rfl ?_
    refine q (fa fo67_1 rfl) ?_
    refine gT rfl rfl ?_
    refine q (ld na3 rfl (by first | exact mR (by assumption) | repeat (first | assumption | exact m0 | apply mS | apply mA)) (by first | rfl | assumption)) ?_
    refine gT rfl rfl ?_
    refine clGv (fst := #[]) (cap := #[]) rfl rfl fb84 rfl pIn ?_
    refine q (by first | exact pkT rfl rfl | exact pkF rfl rfl) ?_
    refine q (mv rfl) ?_
    refine decd (t := 14) rfl (fun h2 => ?_) (fun h2 => ?_)
    · refine gT rfl rfl ?_
      refine q (mv rfl) ?_
      refine gT rfl rfl ?_
      refine q (fa fo67_2 rfl) ?_
      refine gT rfl rfl ?_
      refine q (ld na3 rfl (by first | exact mR (by assumption) | repeat (first | assumption | exact m0 | apply mS | apply mA)) (by first | rfl | assumption)) ?_
      refine gT rfl rfl ?_
      refine clGv (fst := #[]) (cap := #[]) rfl rfl fb84 rfl pIn ?_
      refine q (by first | exact pkT rfl rfl | exact pkF rfl rfl) ?_
      refine q (mv rfl) ?_
      refine decd (t := 20) rfl (fun h3 => ?_) (fun h3 => ?_)
      · refine gT rfl rfl ?_
        refine q (mv rfl) ?_
        refine gT rfl rfl ?_
        refine q (fa fo67_3 rfl) ?_
        refine gT rfl rfl ?_
        refine q (ld na3 rfl (by first | exact mR (by assumption) | repeat (first | assumption | exact m0 | apply mS | apply mA)) (by first | rfl | assumption)) ?_
        refine gT rfl rfl ?_
        refine clGv (fst := #[]) (cap := #[]) rfl rfl fb84 rfl pIn ?_
        refine q (by first | exact pkT rfl rfl | exact pkF rfl rfl) ?_
        refine q (asg rfl) ?_
        refine en ?_
        refine ret ?_
        exact finQ [] rfl rfl (fun a => by first | (simp only [cnt_append, cnt_cons, cnt_nil, id]; done) | (simp only [cnt_append, cnt_cons, cnt_nil, id]; omega)) ⟨congrArg Value.bool (decide_eq_decide.2 (by unfold Quo.right; omega)), rfl⟩
      · first | refine gF rfl rfl rfl ?_ | refine gU rfl rfl ?_
        first | refine gF rfl rfl rfl ?_ | refine gU rfl rfl ?_
        first | refine gF rfl rfl rfl ?_ | refine gU rfl rfl ?_
        first | refine gF rfl rfl rfl ?_ | refine gU rfl rfl ?_
        refine q (by first | exact pkT rfl rfl | exact pkF rfl rfl) ?_
        refine q (asg rfl) ?_
        refine en ?_
        refine ret ?_
        exact finQ [] rfl rfl (fun a => by first | (simp only [cnt_append, cnt_cons, cnt_nil, id]; done) | (simp only [cnt_append, cnt_cons, cnt_nil, id]; omega)) ⟨by rw [decide_eq_false (by unfold Quo.right; omega)], rfl⟩
    · first | refine gF rfl rfl rfl ?_ | refine gU rfl rfl ?_
      first | refine gF rfl rfl rfl ?_ | refine gU rfl rfl ?_
      first | refine gF rfl rfl rfl ?_ | refine gU rfl rfl ?_
      first | refine gF rfl rfl rfl ?_ | refine gU rfl rfl ?_
      refine q (by first | exact pkT rfl rfl | exact pkF rfl rfl) ?_
      refine q (mv rfl) ?_
      first | refine gF rfl rfl rfl ?_ | refine gU rfl rfl ?_
      first | refine gF rfl rfl rfl ?_ | refine gU rfl rfl ?_
      first | refine gF rfl rfl rfl ?_ | refine gU rfl rfl ?_
      first | refine gF rfl rfl rfl ?_ | refine gU rfl rfl ?_
      refine q (by first | exact pkT rfl rfl | exact pkF rfl rfl) ?_
      refine q (asg rfl) ?_
      refine en ?_
      refine ret ?_
      exact finQ [] rfl rfl (fun a => by first | (simp only [cnt_append, cnt_cons, cnt_nil, id]; done) | (simp only [cnt_append, cnt_cons, cnt_nil, id]; omega)) ⟨by rw [decide_eq_false (by unfold Quo.right; omega)], rfl⟩
  · first | refine gF rfl rfl rfl ?_ | refine gU rfl rfl ?_
    first | refine gF rfl rfl rfl ?_ | refine gU rfl rfl ?_
    first | refine gF rfl rfl rfl ?_ | refine gU rfl rfl ?_
    first | refine gF rfl rfl rfl ?_ | refine gU rfl rfl ?_
    refine q (by first | exact pkT rfl rfl | exact pkF rfl rfl) ?_
    refine q (mv rfl) ?_
    first | refine gF rfl rfl rfl ?_ | refine gU rfl rfl ?_
    first | refine gF rfl rfl rfl ?_ | refine gU rfl rfl ?_
    first | refine gF rfl rfl rfl ?_ | refine gU rfl rfl ?_
    first | refine gF rfl rfl rfl ?_ | refine gU rfl rfl ?_
    refine q (by first | exact pkT rfl rfl | exact pkF rfl rfl) ?_
    refine q (mv rfl) ?_
    first | refine gF rfl rfl rfl ?_ | refine gU rfl rfl ?_
    first | refine gF rfl rfl rfl ?_ | refine gU rfl rfl ?_
    first | refine gF rfl rfl rfl ?_ | refine gU rfl rfl ?_
    first | refine gF rfl rfl rfl ?_ | refine gU rfl rfl ?_
    refine q (by first | exact pkT rfl rfl | exact pkF rfl rfl) ?_
    refine q (asg rfl) ?_
    refine en ?_
    refine ret ?_
    exact finQ [] rfl rfl (fun a => by first | (simp only [cnt_append, cnt_cons, cnt_nil, id]; done) | (simp only [cnt_append, cnt_cons, cnt_nil, id]; omega)) ⟨by rw [decide_eq_false (by unfold Quo.right; omega)], rfl⟩
theorem pQuota {R c M s} (h : RdC R c M) (hI : CI M) : Tri Try.prog 37 [(.pointer (some ⟨c, 0, none⟩)), u8V s] R [] fun v l' => v = .tuple (List.toArray [quoV (M.quota s).1, .bool (M.quota s).2]) ∧ l' = [] := by
  have hr := h
  obtain ⟨m, kv, ck, hc, hm, hk⟩ := h
  refine enter Try.func37 rfl rfl (by kernel_rfl) rfl fun w0 => ?_
  refine seq ?_
  refine reg ?_
  refine al zr67 rfl ?_
  intro b1
  refine q (asg rfl) ?_
  refine en ?_
  refine seq ?_
  refine seq ?_
  refine reg ?_
  refine q (mv rfl) ?_
  refine cl0v fb75 rfl (pNone (hr.mono fun b o h => .inl h) hI) ?_
  refine q (mv rfl) ?_
  refine gT rfl rfl ?_
  refine q (mv rfl) ?_
  refine gT rfl rfl ?_
  refine q (bGeq rfl rfl) ?_
  refine q (by first | exact pkT rfl rfl | exact pkF rfl rfl) ?_
  refine q (mv rfl) ?_
  refine decd (t := 12) rfl (fun hs => ?_) (fun hs => ?_)
  · first | refine gF rfl rfl rfl ?_ | refine gU rfl rfl ?_
    first | refine gF rfl rfl rfl ?_ | refine gU rfl rfl ?_
    first | refine gF rfl rfl rfl ?_ | refine gU rfl rfl ?_
    first | refine gF rfl rfl rfl ?_ | refine gU rfl rfl ?_
    refine q (by first | exact pkT rfl rfl | exact pkF rfl rfl) ?_
    refine en ?_
    refine ifT rfl ?_
    refine seq ?_
    refine reg ?_
    refine q (bd pl67 rfl .n) ?_
    refine stA sz67 rfl rfl rfl rfl (by repeat (first | exact .h | apply In.t | apply In.r)) (by first | assumption | repeat constructor) ?_
    refine q (asg rfl) ?_
    refine en ?_
    refine ret (dSr ?_)
    have e : M.quota s = (Q0, false) := by unfold CM.quota; rw [if_neg (by omega)]
    rw [e]
    exact finZ [] rfl (.agg ag67 rfl m0 (tkAll rfl) (.tmp rfl .nil)) rfl (fun a => by first | (simp only [cnt_append, cnt_cons, cnt_nil, id]; done) | (simp only [cnt_append, cnt_cons, cnt_nil, id]; omega)) ⟨rfl, rfl⟩
  · have hs : s.toNat < 4 := by omega
    refine gT rfl rfl ?_
    refine q (mv rfl) ?_
    refine gT rfl rfl ?_
    refine q (mv rfl) ?_
    refine gT rfl rfl ?_
    refine cl0v fb76 rfl (pThere (hr.mono fun b o h => .inl h) hI hs) ?_
    refine gT rfl rfl ?_
    refine q (by first | exact bNotd rfl | exact bNot rfl) ?_
    refine q (by first | exact pkT rfl rfl | exact pkF rfl rfl) ?_
    refine en ?_
    refine ifd rfl (fun ht => ?_) (fun ht => ?_)
    · refine seq ?_
      refine reg ?_
      refine q (bd pl67 rfl .n) ?_
      refine stA sz67 rfl rfl rfl rfl (by repeat (first | exact .h | apply In.t | apply In.r)) (by first | assumption | repeat constructor) ?_
      refine q (asg rfl) ?_
      refine en ?_
      refine ret (dSr ?_)
      have e : M.quota s = (Q0, false) := by unfold CM.quota; rw [if_neg (fun h => ht h.2)]
      rw [e]
      exact finZ [] rfl (.agg ag67 rfl m0 (tkAll rfl) (.tmp rfl .nil)) rfl (fun a => by first | (simp only [cnt_append, cnt_cons, cnt_nil, id]; done) | (simp only [cnt_append, cnt_cons, cnt_nil, id]; omega)) ⟨rfl, rfl⟩
    · have hT : Tk (0 + 0 + ((s.toNat : Nat) : Int).toNat * 4) 4 (catC M.qs m) (quoC (M.q s.toNat)) := by
        rw [Int.toNat_natCast, show 0 + 0 + s.toNat * 4 = s.toNat * 4 by omega]; exact catC_tk hI.len hs
      refine skp (dSq ?_)
      refine seq ?_
      refine reg ?_
      refine q (mv rfl) ?_
      refine q (mv rfl) ?_
      refine q (nck rfl) ?_
      refine q (fa fo123_0 rfl) ?_
      refine q (iaA Try.underlying121 sz67 rfl rfl (by omega) (by omega)) ?_
      refine q (ldA ag67 rfl (by first | exact mR (by assumption) | repeat (first | assumption | exact m0 | apply mS | apply mA)) (by first | assumption | repeat constructor)) ?_
      refine stA sz67 rfl rfl rfl rfl (by repeat (first | exact .h | apply In.t | apply In.r)) (by first | assumption | repeat constructor) ?_
      refine q (asg rfl) ?_
      refine en ?_
      refine ret ?_
      have e : M.quota s = (M.q s.toNat, true) := by unfold CM.quota; rw [if_pos ⟨hs, by simpa using ht⟩]
      rw [e]
      exact finZ [] rfl (.agg ag67 rfl m0 (tkAll rfl) (.tmp rfl .nil)) rfl (fun a => by first | (simp only [cnt_append, cnt_cons, cnt_nil, id]; done) | (simp only [cnt_append, cnt_cons, cnt_nil, id]; omega)) ⟨rfl, rfl⟩
theorem prn_get {kv ck ps t} (h : KvR kv ck ps) : getK kv t = (look ps t).map fun x => .agg (prnC x).toArray := h.get t
theorem pWho {R c M t} (h : RdC R c M) (hI : CI M) : Tri Try.prog 39 [(.pointer (some ⟨c, 0, none⟩)), tokV t] R [] fun v l' => v = .tuple (List.toArray [u8V (M.who t).1, u8V (M.who t).2.1, .bool (M.who t).2.2]) ∧ l' = [] := by
  have hr := h
  obtain ⟨m, kv, ck, hc, hm, hk⟩ := h
  have h16 : (catC M.qs m)[0 + 16]? = some (.map (some m)) := catC_map hI.len
  have hT : Tk 0 8 (tokC t) (tokC t) := tkAll (tokC_len t)
  have hlk : ((getK kv t).getD (.agg (List.toArray [.int .u8 0, .int .u8 0])), (getK kv t).isSome) = (.agg (prnC ((M.who t).1, (M.who t).2.1)).toArray, (M.who t).2.2) := by
    rw [hk.get]; unfold CM.who; cases look M.ps t <;> rfl
  obtain ⟨hl1, hl2⟩ := Prod.mk.inj hlk
  refine enter Try.func39 rfl rfl (by kernel_rfl) rfl fun w0 => ?_
  refine seq ?_
  refine reg ?_
  refine bx rfl rfl fun b1 => ?_
  refine q (asg rfl) ?_
  refine q (asg rfl) ?_
  refine q (asg rfl) ?_
  refine en ?_
  refine seq ?_
  refine seq ?_
  refine reg ?_
  refine q (mv rfl) ?_
  refine cl0v fb75 rfl (pNone (hr.mono fun b o h => .inl h) hI) ?_
  refine en ?_
  refine ifF rfl ?_
  refine skp (dSq ?_)
  refine seq ?_
  refine drw (by kernel_rfl) [(.q, 0), (.q, 1), (.q, 2), (.q, 3), (.q, 4), (.q, 5), (.q, 6), (.q, 7), (.p, 8), (.a, 9), (.s, 10), (.q, 11)] _ rfl (by kernel_rfl) (by kernel_rfl) ⟨alF rfl zr134 rfl, trivial⟩ ?_
  refine xq rfl (mv rfl) ?_
  refine xq rfl (nck rfl) ?_
  refine xq rfl (fa fo123_1 rfl) ?_
  refine xq rfl (ld na120 rfl (by first | exact mR (by assumption) | repeat (first | assumption | exact m0 | apply mS | apply mA)) (by first | rfl | assumption)) ?_
  refine xq rfl (ldA ag65 rfl (by first | exact mR (by assumption) | repeat (first | assumption | exact m0 | apply mS | apply mA)) (by first | assumption | repeat constructor)) ?_
  refine xq rfl ((lko Try.underlying120 tokKey zr134 rfl rfl (.inl hm)).to (by rw [hl1, hl2])) ?_
  refine xq rfl (mv rfl) ?_
  refine xq rfl (ext rfl rfl) ?_
  refine xp rfl (ext rfl rfl) ?_
  refine xa rfl zr134 rfl ?_
  intro b1
  refine xs rfl (eStA sz134 rfl rfl rfl rfl (by repeat (first | exact .h | apply In.t | apply In.r)) (by first | assumption | repeat constructor)) ?_
  rintro _ _ rfl
  refine xq rfl (asg rfl) ?_
  refine dSq ?_
  refine seq ?_
  refine drw (by kernel_rfl) [(.q, 0), (.q, 1), (.q, 2), (.q, 3), (.q, 4), (.q, 5), (.q, 6), (.q, 7)] _ rfl (by kernel_rfl) (by kernel_rfl) trivial ?_
  refine xq rfl (fa fo134_0 rfl) ?_
  refine xq rfl (ld na5 rfl (by first | exact mR (by assumption) | repeat (first | assumption | exact m0 | apply mS | apply mA)) (by first | rfl | assumption)) ?_
  refine xq rfl (fa fo134_1 rfl) ?_
  refine xq rfl (ld na5 rfl (by first | exact mR (by assumption) | repeat (first | assumption | exact m0 | apply mS | apply mA)) (by first | rfl | assumption)) ?_
  refine xq rfl (mv rfl) ?_
  refine xq rfl (asg rfl) ?_
  refine xq rfl (asg rfl) ?_
  refine xq rfl (asg rfl) ?_
  refine dSq ?_
  refine ret ?_
  exact finQT [] rfl rfl rfl (fun a => by first | (simp only [cnt_append, cnt_cons, cnt_nil, id]; done) | (simp only [cnt_append, cnt_cons, cnt_nil, id]; omega)) ⟨rfl, rfl⟩
theorem KvR.keys {kv ck} {M : CM} (h : KvR kv ck M.ps) (hI : CI M) : (kv.map (·.1)).Perm (M.ps.map (·.tok)) := by
  refine (List.perm_ext_iff_of_nodup h.ok.keys ?_).2 fun t => ?_
  · rw [List.Nodup, List.pairwise_map]
    exact hI.sd.imp fun h e => sLt_ne h (congrArg Subtype.val e)
  · rw [← getK_mem, h.get, Option.isSome_map, look_isSome]
def slotB (ps : List Prn) (s : UInt8) (t : Tok) : Bool := ((look ps t).map (·.1)) == some s
theorem slotB_many {M : CM} (hI : CI M) {s : UInt8} {ts : List Tok} (h : ts.Perm (M.ps.map (·.tok))) : ts.countP (slotB M.ps s) = M.many s := by
  rw [h.countP_eq, List.countP_map]
  unfold CM.many
  refine List.countP_congr fun p hp => ?_
  simp only [Function.comp, slotB, look_some hI.sd hp, Option.map_some]
  simp
theorem KvR.mem {kv ck ps} (h : KvR kv ck ps) {p : Tok × Value × Nat} (hp : p ∈ kv) : ∃ x, look ps p.1 = some x ∧ p.2.1 = .agg (prnC x).toArray := by
  have h1 : getK kv p.1 = some p.2.1 := by
    have hk := h.ok.keys
    clear h
    induction kv with
    | nil => cases hp
    | cons q r ih =>
      simp only [List.map_cons, List.nodup_cons] at hk
      rw [getK]
      rcases List.mem_cons.1 hp with rfl | hp
      · rw [if_pos rfl]
      · rw [if_neg (fun e => hk.1 (by first | (rw [e]; exact List.mem_map.2 ⟨p, hp, rfl⟩) | (rw [← e]; exact List.mem_map.2 ⟨p, hp, rfl⟩))), ih hp hk.2]
  rw [h.get] at h1
  cases hl : look ps p.1 with
  | none => rw [hl] at h1; cases h1
  | some x => rw [hl] at h1; exact ⟨x, rfl, (Option.some.inj h1).symm⟩
theorem pMany {R c M s} (h : RdC R c M) (hI : CI M) (hn : M.ps.length ≤ 1000) : Tri Try.prog 107 [(.pointer (some ⟨c, 0, none⟩)), u8V s] R [] fun v l' => v = .int .i64 (M.many s : Nat) ∧ l' = [] := by
  obtain ⟨m, kv, ck, hc, hm, hk⟩ := h
  have h16 : (catC M.qs m)[0 + 16]? = some (.map (some m)) := catC_map hI.len
  have hkl : kv.length ≤ 1000 := by
    have := (hk.keys hI).length_eq
    rw [List.length_map, List.length_map] at this; omega
  refine enter Try.func107 rfl rfl (by kernel_rfl) rfl fun w0 => ?_
  refine seq ?_
  refine reg ?_
  refine q (asg rfl) ?_
  refine en ?_
  refine seq ?_
  refine reg ?_
  refine q (asg rfl) ?_
  refine en ?_
  refine seq ?_
  refine seq ?_
  refine reg ?_
  refine q (mv rfl) ?_
  refine q (nck rfl) ?_
  refine q (fa fo123_1 rfl) ?_
  refine q (ld na120 rfl (by first | exact mR (by assumption) | repeat (first | assumption | exact m0 | apply mS | apply mA)) (by first | rfl | assumption)) ?_
  refine eo (eRg Try.underlying120 rfl (.inl hm)) ?_
  rintro _ _ ⟨it, rfl, rfl⟩
  refine en ?_
  refine blk ?_
  refine cSub (e' := [(1, u8V s), (5, .int .i64 0), (12, .pointer (some ⟨it, 0, none⟩))]) (by repeat first | exact Sub.nil | refine Sub.cons rfl ?_) ?_
  refine loop (fun m' e l => ∃ (seen : Array Nat) (ts : List Tok) (lJ : Bl), m' = kv.countP (fun p => decide (p.2.2 ∉ seen)) ∧ e = [(1, u8V s), (5, .int .i64 (ts.countP (slotB M.ps s) : Nat)), (12, .pointer (some ⟨it, 0, none⟩))] ∧ l = (it, .mapIter (some m) ck seen ck) :: lJ ∧ ts.Perm ((kv.filter fun p => decide (p.2.2 ∈ seen)).map (·.1))) _ ⟨#[], [], [], rfl, rfl, rfl, by simp⟩ ?_
  rintro m' _ _ ⟨seen, ts, lJ, rfl, rfl, rfl, hp⟩
  refine seq ?_
  refine reg ?_
  refine eo (eNx hk.ok rfl (.inl hm) (List.mem_cons_self ..)) ?_
  intro v l' hN
  rcases hN with ⟨rfl, rfl, hall⟩ | ⟨⟨n, v0, bn⟩, hpk, hns, rfl, hin⟩
  · refine q (ext rfl rfl) ?_
    refine en ?_
    refine seq ?_
    refine ifF rfl ?_
    refine exi (dSe (dLe (dBe (dSq ?_))))
    refine seq ?_
    refine reg ?_
    refine q (mv rfl) ?_
    refine q (asg rfl) ?_
    refine en ?_
    refine ret ?_
    refine finQ [] rfl rfl (fun a => by first | (simp only [cnt_append, cnt_cons, cnt_nil, id]; done) | (simp only [cnt_append, cnt_cons, cnt_nil, id]; omega)) ⟨?_, rfl⟩
    rw [List.filter_eq_self.2 (fun p hp => by simpa using hall p hp)] at hp
    rw [slotB_many hI (hp.trans (hk.keys hI))]
  · simp only at hns hin
    refine oPerm (l' := (it, .mapIter (some m) ck (seen.push bn) ck) :: lJ) (permC fun a => by have := hin.cnt a; simp only [cnt_cons] at *; omega) ?_
    refine q (ext rfl rfl) ?_
    refine en ?_
    refine seq ?_
    refine ifT rfl ?_
    refine skp (dSq ?_)
    refine blk ?_
    refine seq ?_
    refine reg ?_
    obtain ⟨⟨sl, ro⟩, hlk, hv0⟩ := hk.mem hpk
    simp only at hlk hv0
    subst hv0
    refine q (ent hk.ok hpk rfl (.inl hm) m0) ?_
    refine q (ext rfl rfl) ?_
    refine al zr134 rfl ?_
    intro b1
    refine stA sz134 rfl rfl rfl rfl (by repeat (first | exact .h | apply In.t | apply In.r)) (by first | assumption | repeat constructor) ?_
    refine en ?_
    refine seq ?_
    refine reg ?_
    refine q (fa fo134_0 rfl) ?_
    refine q (ld na5 rfl (by first | exact mR (by assumption) | repeat (first | assumption | exact m0 | apply mS | apply mA)) (by first | rfl | assumption)) ?_
    refine q (mv rfl) ?_
    refine q (bEql rfl rfl) ?_
    refine en ?_
    have hslot : slotB M.ps s n = decide ((sl.toNat : Int) = s.toNat) := by
      unfold slotB; rw [hlk]
      by_cases e : sl = s
      · subst e; simp
      · have : ¬ (sl.toNat : Int) = s.toNat := fun h => e (UInt8.toNat_inj.1 (by omega))
        simp [e, this]
    have hperm : (ts ++ [n]).Perm ((kv.filter fun p => decide (p.2.2 ∈ seen.push bn)).map (·.1)) := by
      have h1 : (kv.filter fun p => decide (p.2.2 ∈ seen.push bn)).Perm ((kv.filter fun p => decide (p.2.2 ∈ seen)) ++ [(n, .agg (prnC (sl, ro)).toArray, bn)]) := push_filter hk.ok.born hpk hns
      have h2 := (h1.map (·.1)).symm
      rw [List.map_append] at h2
      exact (hp.append_right [n]).trans h2
    have hcl : ts.countP (slotB M.ps s) ≤ 1000 := by
      have h1 := List.countP_le_length (p := slotB M.ps s) (l := ts)
      have h2 := hp.length_eq
      rw [List.length_map] at h2
      have h3 := List.length_filter_le (fun p : Tok × Value × Nat => decide (p.2.2 ∈ seen)) kv
      omega
    refine ifd rfl (fun he => ?_) (fun he => ?_)
    · refine reg ?_
      refine q (mv rfl) ?_
      refine q (by first | exact bAddi rfl rfl (by omega) | exact bAdd rfl rfl) ?_
      refine q (asg rfl) ?_
      refine enD (dBn ?_)
      refine dSub ((it, .mapIter (some m) ck (seen.push bn) ck) :: lJ) (fun a => by simp only [cnt_append, cnt_cons, cnt_nil]; omega) (dLp (m' := _) (e' := [(1, u8V s), (5, .int .i64 ((ts ++ [n]).countP (slotB M.ps s) : Nat)), (12, .pointer (some ⟨it, 0, none⟩))]) (find_seen hpk hns) ?_ ?_)
      · rw [List.countP_append, List.countP_singleton, hslot, if_pos (by simpa using he)]
        exact (by repeat first | exact Sub.nil | refine Sub.cons rfl ?_)
      · exact ⟨seen.push bn, ts ++ [n], lJ, rfl, rfl, rfl, hperm⟩
    · refine skp (dBn ?_)
      refine dSub ((it, .mapIter (some m) ck (seen.push bn) ck) :: lJ) (fun a => by simp only [cnt_append, cnt_cons, cnt_nil]; omega) (dLp (m' := _) (e' := [(1, u8V s), (5, .int .i64 ((ts ++ [n]).countP (slotB M.ps s) : Nat)), (12, .pointer (some ⟨it, 0, none⟩))]) (find_seen hpk hns) ?_ ?_)
      · rw [List.countP_append, List.countP_singleton, hslot, if_neg (by simpa using he)]
        exact (by repeat first | exact Sub.nil | refine Sub.cons rfl ?_)
      · exact ⟨seen.push bn, ts ++ [n], lJ, rfl, rfl, rfl, hperm⟩

