import Derived.Test.YtoecfgldnlglnaaG1
set_option linter.unusedVariables false
set_option linter.unusedSimpArgs false
set_option linter.unusedSectionVars false
set_option maxRecDepth 20000
namespace Go.Wk
open Go

/-! # A region that draws its order -/
/-- How an operation is met: 'q' it leaves memory as it is (or calls what does); 'a' it makes a variable; 'b' it makes memory (and leaves what there is); 's' all that is ahead of it in the plan must be done (but for what is 'p'); 'p' it does not look at memory. -/
inductive Kd where
  | q | a | b | s | p
  deriving DecidableEq
/-- j must be done ahead of i. -/
def edge (os : List Oper) (i j : Nat) : Bool := match os[i]? with
  | some o => o.after.toList.any fun e => Region.binds .any e && e.on == j
  | none => false
/-- Of each operation, what must be done ahead of it. -/
def ancs (acc : List Nat) : List Oper → List Nat
  | [] => acc
  | o :: r => ancs (acc ++ [o.after.toList.foldl (fun s e => if Region.binds .any e then s ||| 2 ^ e.on ||| acc.getD e.on 0 else s) 0]) r
def Bm (os : List Oper) (i j : Nat) : Bool := ((ancs [] os).getD i 0).testBit j
def dstOf (os : List Oper) (i : Nat) : Option Tmp := (os[i]?).bind (·.dst)
def looks (os : List Oper) (i : Nat) : List Tmp := match os[i]? with
  | some o => o.looksAt os.toArray
  | none => []
/-- The plan fits the region: ds, ks, es, ms: of each operation where it writes, where it looks, what must be just ahead of it, what must be ahead of it. -/
structure Lit where
  ds : List (Option Tmp)
  ks : List (List Tmp)
  es : List (List Nat)
  ms : List Nat
def edgesOf (o : Oper) : List Nat := (o.after.toList.filter (Region.binds .any)).map (·.on)
def Lit.of (os : List Oper) : Lit := ⟨os.map (·.dst), os.map (·.looksAt os.toArray), os.map edgesOf, ancs [] os⟩
def ckAt (L : Lit) (N : Nat) : List Nat → List Nat → List (Kd × Nat) → Bool
  | _, _, [] => true
  | dn, pn, (k, i) :: π =>
    ((L.ks.getD i []).all fun t => L.ds.zipIdx.all fun p => p.2 == i || p.1 != some t || (if dn.contains p.2 then (L.ms.getD i 0).testBit p.2 else (L.ms.getD p.2 0).testBit i)) &&
    ((L.ks.getD i []).all fun t => (L.ds.getD i none) != some t) &&
    (k == .q || k == .p || π.all fun p => p.1 == .a || (L.ms.getD p.2 0).testBit i) &&
    (k != .s || dn.all fun j => (L.ms.getD i 0).testBit j || pn.contains j) &&
    ((L.es.getD i []).all fun j => dn.contains j) &&
    ckAt L N (i :: dn) (if k == .p then i :: pn else pn) π
def distinct : List Nat → Bool
  | [] => true
  | i :: r => !r.contains i && distinct r
def ckPlan (L : Lit) (N : Nat) (π : List (Kd × Nat)) : Bool :=
  (π.length == N) && distinct (π.map (·.2)) && (π.all fun p => decide (p.2 < N)) && ((List.range N).all fun i => (π.map (·.2)).contains i) &&
  (L.ds.zipIdx.all fun p => L.ds.zipIdx.all fun q => p.2 == q.2 || p.1.isNone || p.1 != q.1) &&
  (L.es.zipIdx.all fun p => p.1.all fun j => decide (j < p.2)) &&
  ckAt L N [] [] π
def noSel (os : List Oper) : Bool := os.all fun o => match o.op with | .select .. => false | _ => true

def putE (d : Option Tmp) (v : Value) (e : Env) : Env := match d with
  | some d => (d, v) :: e
  | none => e
/-- Is the operation wanted? -/
def Wn (os : List Oper) (e : Env) (o : Oper) (b : Bool) : Prop := match o.guard with
  | none => b = true
  | some (k, want) => ∃ t, dstOf os k = some t ∧ ((∃ u, gt e t = some (.bool u) ∧ b = (u == want)) ∨ (gt e t = some undef ∧ b = false))
section
variable (c : Cx) (os : List Oper) (Q : Ps)
def QuF (l : Bl) (o : Oper) (e : Env) (v : Value) : Prop :=
  (Wn os e o true ∧ ∀ F w, Hv c.R c.w0 c.l0 (F ++ l) w → ∀ a, Ag c.n a e → (execOp a.eval o).run c.P w = .ok (.value v) w ∨
    ∃ f args, (execOp a.eval o).run c.P w = .ok (.enter f args) w ∧ Calls c.P f args w fun en w' => en = .returned v ∧ Hv c.R c.w0 c.l0 (F ++ l) w') ∨
  (Wn os e o false ∧ v = undef)
def EfF (l : Bl) (o : Oper) (e : Env) (S : Value → Bl → Prop) : Prop :=
  Wn os e o true ∧ ∀ F w, Hv c.R c.w0 c.l0 (F ++ l) w → ∀ a, Ag c.n a e →
    (∃ v l' w', (execOp a.eval o).run c.P w = .ok (.value v) w' ∧ S v l' ∧ Hv c.R c.w0 c.l0 (F ++ l') w') ∨
    (∃ l' w', (execOp a.eval o).run c.P w = .ok .skip w' ∧ S undef l' ∧ Hv c.R c.w0 c.l0 (F ++ l') w') ∨
    (∃ f args, (execOp a.eval o).run c.P w = .ok (.enter f args) w ∧ Calls c.P f args w fun en w' => ∃ v l', en = .returned v ∧ S v l' ∧ Hv c.R c.w0 c.l0 (F ++ l') w')
/-- The walk along a plan; K: what no 's' touches. -/
def Lx (K : Bl) : List (Kd × Nat) → Env → Bl → Prop
  | [], e, l => Dn c Q .normal e l
  | (.q, i) :: π, e, l => ∃ o v, os[i]? = some o ∧ QuF c os l o e v ∧ Lx K π (putE o.dst v e) l
  | (.p, i) :: π, e, l => ∃ o v, os[i]? = some o ∧ QuF c os K o e v ∧ Lx K π (putE o.dst v e) l
  | (.a, i) :: π, e, l => ∃ d T ty pos aft z cs, os[i]? = some ⟨some d, .alloc T, ty, pos, aft, none⟩ ∧ Zr c.P T z ∧ z.cells = List.toArray cs ∧
      ∀ b, Lx K π ((d, .pointer (some ⟨b, 0, none⟩)) :: e) ((b, .cells cs.toArray T (0, 0)) :: l)
  | (.b, i) :: π, e, l => ∃ o S, os[i]? = some o ∧ EfF c os l o e S ∧ (∀ v l', S v l' → ∃ A, l' = A ++ l) ∧ ∀ v l', S v l' → Lx K π (putE o.dst v e) l'
  | (.s, i) :: π, e, l => ∃ o S, os[i]? = some o ∧ EfF c os l o e S ∧ ∀ v l', S v l' → (∃ A : Bl, l'.Perm (A ++ K)) ∧ Lx K π (putE o.dst v e) l'
end

/-! ## It holds in whatever order -/
theorem fold_bit {acc : List Nat} : ∀ (l : List Edge) (s j : Nat), (l.foldl (fun s e => if Region.binds .any e then s ||| 2 ^ e.on ||| acc.getD e.on 0 else s) s).testBit j = true →
    s.testBit j = true ∨ ∃ e ∈ l, Region.binds .any e = true ∧ (j = e.on ∨ (acc.getD e.on 0).testBit j = true)
  | [], s, j, h => .inl h
  | e :: l, s, j, h => by
    rw [List.foldl_cons] at h
    rcases fold_bit l _ j h with h1 | ⟨e', he, hb, h2⟩
    · by_cases hb : Region.binds .any e = true
      · rw [if_pos hb] at h1
        simp only [Nat.testBit_or, Bool.or_eq_true] at h1
        rcases h1 with (h1 | h1) | h1
        · exact .inl h1
        · refine .inr ⟨e, List.mem_cons_self .., hb, .inl ?_⟩
          rw [Nat.testBit_two_pow] at h1
          exact (of_decide_eq_true h1).symm
        · exact .inr ⟨e, List.mem_cons_self .., hb, .inr h1⟩
      · rw [if_neg hb] at h1; exact .inl h1
    · exact .inr ⟨e', List.mem_cons_of_mem _ he, hb, h2⟩
theorem ancs_done {os : List Oper} {L : Nat → Prop} (hc : ∀ i j, L i → edge os i j = true → L j) : ∀ (r : List Oper) (acc : List Nat), (∀ k, r[k]? = os[acc.length + k]?) → (∀ i j, L i → (acc.getD i 0).testBit j = true → L j) →
    ∀ i j, L i → ((ancs acc r).getD i 0).testBit j = true → L j
  | [], acc, _, h => h
  | o :: r, acc, hr, h => by
    refine ancs_done hc r _ (fun k => by have := hr (k + 1); simpa [Nat.add_assoc, Nat.add_comm 1 k] using this) fun i j hi hb => ?_
    by_cases hlt : i < acc.length
    · rw [List.getD_eq_getElem?_getD, List.getElem?_append_left hlt, ← List.getD_eq_getElem?_getD] at hb
      exact h i j hi hb
    · by_cases heq : i = acc.length
      · subst heq
        simp at hb
        rcases fold_bit (acc := acc) o.after.toList 0 j (by simpa using hb) with h1 | ⟨e, he, hbi, h2⟩
        · simp at h1
        · have hk : L e.on := hc _ _ hi (by
            have h0 : os[acc.length]? = some o := by simpa using (hr 0).symm
            simp only [edge, h0]
            exact List.any_eq_true.2 ⟨e, he, by simp [hbi]⟩)
          rcases h2 with rfl | h2
          · exact hk
          · exact h _ _ hk h2
      · have : (acc ++ [o.after.toList.foldl (fun s e => if Region.binds .any e then s ||| 2 ^ e.on ||| acc.getD e.on 0 else s) 0]).getD i 0 = 0 := by
          rw [List.getD_eq_getElem?_getD, List.getElem?_eq_none (by simp; omega)]; rfl
        rw [this] at hb; simp at hb
theorem bef_done {os : List Oper} {L : Nat → Prop} (hc : ∀ i j, L i → edge os i j = true → L j) (i j : Nat) (h : Bm os i j = true) (hi : L i) : L j :=
  ancs_done hc os [] (by simp) (fun i j _ h => by simp at h) i j hi h
theorem bef_dep {os : List Oper} {L : Nat → Prop} (hc : ∀ i j, L i → edge os i j = true → L j) {i : Nat} (hd : ∀ j, edge os i j = true → L j) (j : Nat) (h : Bm os i j = true) : L j ∨ j = i := by
  have := bef_done (os := os) (L := fun x => L x ∨ x = i) (fun x y hx he => by
    rcases hx with hx | rfl
    · exact .inl (hc x y hx he)
    · exact .inl (hd y he)) i j h (.inr rfl)
  exact this
/-- An act with all that is known, alike where it is looked at. -/
theorem star {n : Nat} {a : Act} {e : Env} {ts : List Tmp} (hs : a.tmps.size = n) (hd : a.defers = []) (hlt : ∀ t v, gt e t = some v → t < n) (h : ∀ t ∈ ts, ∀ v, gt e t = some v → a.tmps[t]? = some v) :
    ∃ a' : Act, Ag n a' e ∧ ∀ t ∈ ts, a'.tmps[t]? = a.tmps[t]? := by
  refine ⟨⟨Array.ofFn (n := n) fun t => (gt e t).getD (a.tmps.getD t undef), []⟩, ⟨by simp, rfl, fun t v hv => ?_⟩, fun t ht => ?_⟩
  · have := hlt t v hv
    simp [this, hv]
  · by_cases htn : t < n
    · simp only [Array.getElem?_ofFn, htn, dif_pos]
      cases hg : gt e t with
      | none => simp [hs, htn]
      | some v => rw [h t ht v hg]; simp
    · simp [htn, hs]
theorem eval_alike {a a' : Act} {os : List Oper} {o : Oper} (h : ∀ t ∈ o.looksAt os.toArray, a'.tmps[t]? = a.tmps[t]?) (hsel : ∀ cs b, o.op ≠ .select cs b) : execOp a'.eval o = execOp a.eval o := by
  refine execOp_congr o hsel fun x hx => ?_
  cases x with
  | tmp t =>
    have := h t (List.mem_append_left _ (List.mem_filterMap.2 ⟨.tmp t, by simpa using hx, rfl⟩))
    simp [Act.eval, this]
  | _ => rfl
theorem wanted_of {a : Act} {n : Nat} {e : Env} {os : List Oper} {o : Oper} {b : Bool} (ha : Ag n a e) (h : Wn os e o b) : Region.wanted o (yielded os.toArray a.tmps) = b := by
  unfold Wn at h
  unfold Region.wanted
  cases hg : o.guard with
  | none => rw [hg] at h; exact h.symm
  | some p =>
    obtain ⟨k, want⟩ := p
    rw [hg] at h
    obtain ⟨t, h1, ⟨u, h2, rfl⟩ | ⟨h2, rfl⟩⟩ := h
    · have : yielded os.toArray a.tmps k = some u := by
        unfold yielded
        have h1' : (os.toArray[k]?).bind (·.dst) = some t := by simpa [dstOf] using h1
        rw [h1']; simp [ha.agree t _ h2]
      simp [this]
    · have : yielded os.toArray a.tmps k = none := by
        unfold yielded
        have h1' : (os.toArray[k]?).bind (·.dst) = some t := by simpa [dstOf] using h1
        rw [h1']; simp [ha.agree t _ h2, undef]
      simp [this]
theorem wanted_alike {a a' : Act} {os : List Oper} {o : Oper} (h : ∀ t ∈ o.looksAt os.toArray, a'.tmps[t]? = a.tmps[t]?) : Region.wanted o (yielded os.toArray a'.tmps) = Region.wanted o (yielded os.toArray a.tmps) := by
  unfold Region.wanted
  cases hg : o.guard with
  | none => rfl
  | some p =>
    obtain ⟨k, want⟩ := p
    have : yielded os.toArray a'.tmps k = yielded os.toArray a.tmps k := by
      unfold yielded
      cases ht : (os.toArray[k]?).bind (·.dst) with
      | none => rfl
      | some t =>
        have := h t (List.mem_append_right _ (by simp [hg]; simpa using ht))
        simp [this]
    simp only [this]

def Ev (os : List Oper) (val : Nat → Value) (e0 : Env) (is : List Nat) : Env := is.foldr (fun i e => putE (dstOf os i) (val i) e) e0
theorem Ev_get {os : List Oper} {val : Nat → Value} {e0 : Env} : ∀ {is : List Nat} {t v}, (∀ i ∈ is, ∀ j ∈ is, i ≠ j → dstOf os i ≠ none → dstOf os i ≠ dstOf os j) → gt (Ev os val e0 is) t = some v →
    (∃ i ∈ is, dstOf os i = some t ∧ v = val i) ∨ ((∀ i ∈ is, dstOf os i ≠ some t) ∧ gt e0 t = some v)
  | [], t, v, _, h => .inr ⟨by simp, h⟩
  | i :: is, t, v, hd, h => by
    have hd' := fun x hx y hy => hd x (List.mem_cons_of_mem _ hx) y (List.mem_cons_of_mem _ hy)
    change gt (putE (dstOf os i) (val i) (Ev os val e0 is)) t = some v at h
    cases hdi : dstOf os i with
    | none =>
      rw [hdi] at h
      rcases Ev_get hd' h with ⟨j, hj, h1, h2⟩ | ⟨h1, h2⟩
      · exact .inl ⟨j, List.mem_cons_of_mem _ hj, h1, h2⟩
      · refine .inr ⟨fun j hj => ?_, h2⟩
        rcases List.mem_cons.1 hj with rfl | hj
        · rw [hdi]; simp
        · exact h1 j hj
    | some d =>
      rw [hdi] at h
      change gt ((d, val i) :: Ev os val e0 is) t = some v at h
      rw [gt_cons] at h
      by_cases hdt : d = t
      · rw [if_pos hdt] at h
        cases h
        exact .inl ⟨i, List.mem_cons_self .., by rw [hdi, hdt], rfl⟩
      · rw [if_neg hdt] at h
        rcases Ev_get hd' h with ⟨j, hj, h1, h2⟩ | ⟨h1, h2⟩
        · exact .inl ⟨j, List.mem_cons_of_mem _ hj, h1, h2⟩
        · refine .inr ⟨fun j hj => ?_, h2⟩
          rcases List.mem_cons.1 hj with rfl | hj
          · rw [hdi]; simpa using hdt
          · exact h1 j hj
theorem Ev_congr {os : List Oper} {val val' : Nat → Value} {e0 : Env} : ∀ {is : List Nat}, (∀ i ∈ is, val i = val' i) → Ev os val e0 is = Ev os val' e0 is
  | [], _ => rfl
  | i :: is, h => by
    show putE _ _ (Ev os val e0 is) = putE _ _ (Ev os val' e0 is)
    rw [h i (List.mem_cons_self ..), Ev_congr fun j hj => h j (List.mem_cons_of_mem _ hj)]
/-- What is asked of one operation's slots, p having gone ahead in the plan. -/
def ckS (os : List Oper) (B : Nat → Nat → Bool) (p : List Nat) (i : Nat) : Prop :=
  (∀ t ∈ looks os i, ∀ j, j < os.length → j ≠ i → dstOf os j = some t → if j ∈ p then B i j = true else B j i = true) ∧ (∀ t ∈ looks os i, dstOf os i ≠ some t)
abbrev Lis (listed : Array Bool) (i : Nat) : Prop := listed.getD i false = true
/-- An 'alloc' and what it makes. -/
def AlF (P : Program) (os : List Oper) (i : Nat) (o : Obj) : Prop := ∃ d T ty pos aft z cs, os[i]? = some ⟨some d, .alloc T, ty, pos, aft, none⟩ ∧ Zr P T z ∧ z.cells = List.toArray cs ∧ o = .cells cs.toArray T (0, 0)
structure RI (K : Bl) (c : Cx) (os : List Oper) (Q : Ps) (e0 : Env) (listed : Array Bool) (a : Act) (w : World) (val : Nat → Value) (dn : List Nat) (rest : List (Kd × Nat)) (l : Bl) (E : List (Nat × Nat × Obj)) (pend pn : List Nat) : Prop where
  lsz : listed.size = os.length
  asz : a.tmps.size = c.n
  adf : a.defers = []
  lx : Lx c os Q K rest (Ev os val e0 dn) l
  kp : ∃ A : Bl, l.Perm (A ++ K)
  ck : ckAt (Lit.of os) os.length dn pn rest = true
  nd : (dn ++ rest.map (·.2)).Nodup
  all : ∀ i, i < os.length ↔ i ∈ dn ∨ i ∈ rest.map (·.2)
  lis : ∀ i, Lis listed i ↔ (i ∈ dn ∧ i ∉ pend) ∨ i ∈ E.map (·.1)
  pdn : ∀ i ∈ pend, i ∈ dn
  hv : Hv c.R c.w0 c.l0 (E.map (·.2) ++ l) w
  slot : ∀ i, Lis listed i → ∀ d, dstOf os i = some d → a.tmps[d]? = some (val i)
  old : ∀ t v, gt e0 t = some v → (∀ i, Lis listed i → dstOf os i ≠ some t) → a.tmps[t]? = some v
  pq : ∀ i ∈ pend, ∃ o p, os[i]? = some o ∧ ckS os (Bm os) p i ∧ (∀ j ∈ p, j ∈ dn) ∧ ((i ∉ pn ∧ ∃ li A, QuF c os li o (Ev os val e0 p) (val i) ∧ l.Perm (A ++ li)) ∨ QuF c os K o (Ev os val e0 p) (val i))
  er : ∀ x ∈ E, (Kd.a, x.1) ∈ rest ∧ AlF c.P os x.1 x.2.2 ∧ val x.1 = .pointer (some ⟨x.2.1, 0, none⟩)
  end_ : (E.map (·.1)).Nodup
  cl : ∀ i j, Lis listed i → edge os i j = true → Lis listed j
  hal : ∀ x ∈ rest, x.1 = .a → ∃ o, AlF c.P os x.2 o
  pnd : ∀ i ∈ pn, i ∈ dn
/-- What holds of the region alone. -/
structure Rg (c : Cx) (os : List Oper) (e0 : Env) : Prop where
  dis : ∀ i j, i < os.length → j < os.length → i ≠ j → dstOf os i ≠ none → dstOf os i ≠ dstOf os j
  sel : ∀ (i : Nat) o cs b, os[i]? = some o → o.op ≠ .select cs b
  okd : ∀ (i : Nat) d, dstOf os i = some d → d < c.n
  e0n : ∀ t v, gt e0 t = some v → t < c.n
  acy : ∀ (i : Nat) o, os[i]? = some o → ∀ e ∈ o.after, Region.binds .any e = true → e.on < i
theorem lt_of_os {os : List Oper} {i : Nat} {o : Oper} (h : os[i]? = some o) : i < os.length := by
  rcases Nat.lt_or_ge i os.length with h' | h'
  · exact h'
  · rw [List.getElem?_eq_none h'] at h; cases h
theorem Lit.of_ds {os : List Oper} {i : Nat} : (Lit.of os).ds.getD i none = dstOf os i := by
  simp only [Lit.of, List.getD_eq_getElem?_getD, List.getElem?_map, dstOf]; cases os[i]? <;> rfl
theorem Lit.of_ks {os : List Oper} {i : Nat} : (Lit.of os).ks.getD i [] = looks os i := by
  simp only [Lit.of, List.getD_eq_getElem?_getD, List.getElem?_map, looks]; cases os[i]? <;> rfl
theorem Lit.of_zip {os : List Oper} {j : Nat} (h : j < os.length) : (dstOf os j, j) ∈ (Lit.of os).ds.zipIdx := by
  rw [List.mem_zipIdx_iff_getElem?]; simp [Lit.of, dstOf, h]
theorem ckAt_spec {os : List Oper} {dn pn : List Nat} {k : Kd} {i : Nat} {π : List (Kd × Nat)} (h : ckAt (Lit.of os) os.length dn pn ((k, i) :: π) = true) :
    ckS os (Bm os) dn i ∧ (k ≠ .q → k ≠ .p → ∀ p ∈ π, p.1 = .a ∨ Bm os p.2 i = true) ∧ (k = .s → ∀ j ∈ dn, Bm os i j = true ∨ j ∈ pn) ∧ (∀ j, j < os.length → edge os i j = true → j ∈ dn) ∧ ckAt (Lit.of os) os.length (i :: dn) (if k = .p then i :: pn else pn) π = true := by
  simp only [ckAt, Bool.and_eq_true, List.all_eq_true, Bool.or_eq_true, beq_iff_eq, bne_iff_ne, Lit.of_ds, Lit.of_ks] at h
  obtain ⟨⟨⟨⟨⟨h1, h2⟩, h3⟩, h4⟩, h5⟩, h6⟩ := h
  refine ⟨⟨fun t ht j hj hji hd => ?_, fun t ht => h2 t ht⟩, fun hk hk' p hp => ?_, fun hk j hj => ?_, fun j hj he => ?_, h6⟩
  · have := h1 t ht (dstOf os j, j) (Lit.of_zip hj)
    rcases this with (h | h) | h
    · exact absurd h hji
    · exact absurd hd h
    · change (if dn.contains j = true then Bm os i j else Bm os j i) = true at h
      by_cases hm : j ∈ dn
      · rw [if_pos hm]; rwa [if_pos (by simpa using hm)] at h
      · rw [if_neg hm]; rwa [if_neg (by simpa using hm)] at h
  · rcases h3 with (h3 | h3) | h3
    · exact absurd h3 hk
    · exact absurd h3 hk'
    · exact h3 p hp
  · rcases h4 with h4 | h4
    · exact absurd hk h4
    · exact (h4 j hj).imp id (by simp)
  · unfold edge at he
    cases ho : os[i]? with
    | none => rw [ho] at he; cases he
    | some o =>
      rw [ho] at he
      obtain ⟨ed, hm, hb⟩ := List.any_eq_true.1 he
      simp only [Bool.and_eq_true, beq_iff_eq] at hb
      have := h5 j (by
        simp only [Lit.of, List.getD_eq_getElem?_getD, List.getElem?_map, ho, Option.map_some, Option.getD_some, edgesOf]
        exact List.mem_map.2 ⟨ed, List.mem_filter.2 ⟨hm, hb.1⟩, hb.2⟩)
      simpa using this
section
variable {K : Bl} {c : Cx} {os : List Oper} {Q : Ps} {e0 : Env} {listed : Array Bool} {a : Act} {w : World} {val : Nat → Value} {dn : List Nat} {rest : List (Kd × Nat)} {l : Bl} {E : List (Nat × Nat × Obj)} {pend pn : List Nat}
def upd (val : Nat → Value) (i : Nat) (v : Value) : Nat → Value := fun j => if j = i then v else val j
theorem upd_ne {val : Nat → Value} {i j : Nat} {v : Value} (h : j ≠ i) : upd val i v j = val j := if_neg h
theorem upd_self {val : Nat → Value} {i : Nat} {v : Value} : upd val i v i = v := if_pos rfl
theorem putE_dst {os : List Oper} {i : Nat} {o : Oper} (h : os[i]? = some o) : dstOf os i = o.dst := by simp [dstOf, h]
theorem Zr.eq {P T z z'} (h : Zr P T z) (h' : Zr P T z') : z = z' := by
  have h1 := h default
  have h2 := h' default
  rw [h1] at h2
  simpa using h2
theorem AlF.eq {P os i o o'} (h : AlF P os i o) (h' : AlF P os i o') : o = o' := by
  obtain ⟨d, T, ty, pos, aft, z, cs, h1, h2, h3, rfl⟩ := h
  obtain ⟨d', T', ty', pos', aft', z', cs', h1', h2', h3', rfl⟩ := h'
  rw [h1] at h1'
  simp only [Option.some.injEq, Oper.mk.injEq, Op.alloc.injEq] at h1'
  obtain ⟨_, rfl, _⟩ := h1'
  have := h2.eq h2'
  subst this
  rw [h3] at h3'
  rw [h3']
theorem RI.notE (h : RI K c os Q e0 listed a w val dn rest l E pend pn) {i : Nat} (hi : i ∈ dn) : i ∉ E.map (·.1) := fun hm => by
  obtain ⟨x, hx, rfl⟩ := List.mem_map.1 hm
  have h1 := (h.er x hx).1
  exact (List.nodup_append.1 h.nd).2.2 _ hi _ (List.mem_map.2 ⟨_, h1, rfl⟩) rfl
theorem RI.notLis (h : RI K c os Q e0 listed a w val dn rest l E pend pn) {k : Kd} {i : Nat} {π : List (Kd × Nat)} (hr : rest = (k, i) :: π) (hk : k ≠ .a ∨ i ∉ E.map (·.1)) : ¬ Lis listed i := fun hl => by
  subst hr
  have hnd := List.nodup_append.1 h.nd
  rcases (h.lis i).1 hl with ⟨h1, _⟩ | h1
  · exact hnd.2.2 _ h1 _ (by simp) rfl
  · rcases hk with hk | hk
    · obtain ⟨x, hx, hxi⟩ := List.mem_map.1 h1
      have h2 := (h.er x hx).1
      rcases List.mem_cons.1 h2 with h3 | h3
      · exact hk (by cases h3; rfl)
      · have := (List.nodup_cons.1 hnd.2.1).1
        exact this (List.mem_map.2 ⟨_, h3, hxi⟩)
    · exact hk h1
theorem RI.advance (n : Nat) : ∀ {val dn rest l E pend pn}, rest.length = n → RI K c os Q e0 listed a w val dn rest l E pend pn →
    ∃ val dn rest l E pend pn, RI K c os Q e0 listed a w val dn rest l E pend pn ∧ (rest = [] ∨ ∃ k i π, rest = (k, i) :: π ∧ k ≠ .q ∧ k ≠ .p ∧ (k = .a → i ∉ E.map (·.1))) := by
  induction n with
  | zero =>
    intro val dn rest l E pend pn hn h
    exact ⟨val, dn, rest, l, E, pend, pn, h, .inl (List.length_eq_zero_iff.1 hn)⟩
  | succ n ih =>
    intro val dn rest l E pend pn hn h
    match rest, hn, h with
    | (.s, i) :: π, hn, h => exact ⟨val, dn, _, l, E, pend, pn, h, .inr ⟨.s, i, π, rfl, by simp, by simp, by simp⟩⟩
    | (.b, i) :: π, hn, h => exact ⟨val, dn, _, l, E, pend, pn, h, .inr ⟨.b, i, π, rfl, by simp, by simp, by simp⟩⟩
    | (.q, i) :: π, hn, h =>
      obtain ⟨o, v, ho, hq, hL⟩ := h.lx
      obtain ⟨c1, c2, c3, c4, c5⟩ := ckAt_spec h.ck
      have hnd := List.nodup_append.1 h.nd
      have hidn : i ∉ dn := fun hm => hnd.2.2 _ hm _ (by simp) rfl
      have hiE : ∀ x ∈ E, x.1 ≠ i := fun x hx he => by
        rcases List.mem_cons.1 (h.er x hx).1 with h3 | h3
        · cases h3
        · exact (List.nodup_cons.1 hnd.2.1).1 (List.mem_map.2 ⟨_, h3, he⟩)
      have hnl := h.notLis rfl (.inl (by simp))
      have hval : ∀ j ∈ dn, upd val i v j = val j := fun j hj => upd_ne fun e => hidn (e ▸ hj)
      have hEv : ∀ p : List Nat, (∀ j ∈ p, j ∈ dn) → Ev os (upd val i v) e0 p = Ev os val e0 p := fun p hp => Ev_congr fun j hj => hval j (hp j hj)
      refine ih (val := upd val i v) (dn := i :: dn) (rest := π) (l := l) (E := E) (pend := i :: pend) (pn := pn) (by simpa using hn) ?_
      refine { lsz := h.lsz, asz := h.asz, adf := h.adf, lx := ?_, kp := h.kp, ck := c5, nd := ?_, all := ?_, lis := ?_, pdn := ?_, hv := h.hv, slot := ?_, old := h.old, pq := ?_, er := ?_, end_ := h.end_, cl := h.cl, hal := fun x hx => h.hal x (List.mem_cons_of_mem _ hx), pnd := ?_ }
      · show Lx c os Q K π (putE (dstOf os i) (upd val i v i) (Ev os (upd val i v) e0 dn)) l
        rw [hEv dn (fun _ h => h), upd_self, putE_dst ho]; exact hL
      · have := h.nd; simp only [List.map_cons] at this
        exact (List.perm_middle.nodup_iff).1 this
      · intro j; rw [h.all j]; simp only [List.map_cons, List.mem_cons]
        constructor
        · rintro (h | h | h) <;> simp_all
        · rintro ((h | h) | h) <;> simp_all
      · intro j
        rw [h.lis j]
        constructor
        · rintro (⟨h1, h2⟩ | h1)
          · exact .inl ⟨List.mem_cons_of_mem _ h1, fun hm => by
              rcases List.mem_cons.1 hm with rfl | hm
              · exact hidn h1
              · exact h2 hm⟩
          · exact .inr h1
        · rintro (⟨h1, h2⟩ | h1)
          · rcases List.mem_cons.1 h1 with rfl | h1
            · exact absurd (List.mem_cons_self ..) h2
            · exact .inl ⟨h1, fun hm => h2 (List.mem_cons_of_mem _ hm)⟩
          · exact .inr h1
      · intro j hj
        rcases List.mem_cons.1 hj with rfl | hj
        · exact List.mem_cons_self ..
        · exact List.mem_cons_of_mem _ (h.pdn j hj)
      · intro j hj d hd
        have hji : j ≠ i := fun e => by subst e; exact hnl hj
        rw [upd_ne hji]; exact h.slot j hj d hd
      · intro j hj
        rcases List.mem_cons.1 hj with rfl | hj
        · exact ⟨o, dn, ho, c1, fun k hk => List.mem_cons_of_mem _ hk, .inl ⟨fun hm => hidn (h.pnd _ hm), l, [], by rw [hEv dn (fun _ h => h), upd_self]; exact hq, List.Perm.refl _⟩⟩
        · obtain ⟨o', p, h1, h3, h4, h5⟩ := h.pq j hj
          have hjd := h.pdn j hj
          refine ⟨o', p, h1, h3, fun k hk => List.mem_cons_of_mem _ (h4 k hk), h5.imp (fun ⟨x0, li, A, x1, x2⟩ => ⟨x0, li, A, by rw [hEv p h4, hval j hjd]; exact x1, x2⟩) (fun x => by rw [hEv p h4, hval j hjd]; exact x)⟩
      · intro x hx
        obtain ⟨h1, h2, h3⟩ := h.er x hx
        refine ⟨?_, h2, by rw [upd_ne (hiE x hx)]; exact h3⟩
        rcases List.mem_cons.1 h1 with h1 | h1
        · exact absurd (congrArg (·.2) h1) (hiE x hx)
        · exact h1
      · exact fun j hj => List.mem_cons_of_mem _ (h.pnd j hj)
    | (.p, i) :: π, hn, h =>
      obtain ⟨o, v, ho, hq, hL⟩ := h.lx
      obtain ⟨c1, c2, c3, c4, c5⟩ := ckAt_spec h.ck
      have hnd := List.nodup_append.1 h.nd
      have hidn : i ∉ dn := fun hm => hnd.2.2 _ hm _ (by simp) rfl
      have hiE : ∀ x ∈ E, x.1 ≠ i := fun x hx he => by
        rcases List.mem_cons.1 (h.er x hx).1 with h3 | h3
        · cases h3
        · exact (List.nodup_cons.1 hnd.2.1).1 (List.mem_map.2 ⟨_, h3, he⟩)
      have hnl := h.notLis rfl (.inl (by simp))
      have hval : ∀ j ∈ dn, upd val i v j = val j := fun j hj => upd_ne fun e => hidn (e ▸ hj)
      have hEv : ∀ p : List Nat, (∀ j ∈ p, j ∈ dn) → Ev os (upd val i v) e0 p = Ev os val e0 p := fun p hp => Ev_congr fun j hj => hval j (hp j hj)
      refine ih (val := upd val i v) (dn := i :: dn) (rest := π) (l := l) (E := E) (pend := i :: pend) (pn := i :: pn) (by simpa using hn) ?_
      refine { lsz := h.lsz, asz := h.asz, adf := h.adf, lx := ?_, kp := h.kp, ck := c5, nd := ?_, all := ?_, lis := ?_, pdn := ?_, hv := h.hv, slot := ?_, old := h.old, pq := ?_, er := ?_, end_ := h.end_, cl := h.cl, hal := fun x hx => h.hal x (List.mem_cons_of_mem _ hx), pnd := ?_ }
      · show Lx c os Q K π (putE (dstOf os i) (upd val i v i) (Ev os (upd val i v) e0 dn)) l
        rw [hEv dn (fun _ h => h), upd_self, putE_dst ho]; exact hL
      · have := h.nd; simp only [List.map_cons] at this
        exact (List.perm_middle.nodup_iff).1 this
      · intro j; rw [h.all j]; simp only [List.map_cons, List.mem_cons]
        constructor
        · rintro (h | h | h) <;> simp_all
        · rintro ((h | h) | h) <;> simp_all
      · intro j
        rw [h.lis j]
        constructor
        · rintro (⟨h1, h2⟩ | h1)
          · exact .inl ⟨List.mem_cons_of_mem _ h1, fun hm => by
              rcases List.mem_cons.1 hm with rfl | hm
              · exact hidn h1
              · exact h2 hm⟩
          · exact .inr h1
        · rintro (⟨h1, h2⟩ | h1)
          · rcases List.mem_cons.1 h1 with rfl | h1
            · exact absurd (List.mem_cons_self ..) h2
            · exact .inl ⟨h1, fun hm => h2 (List.mem_cons_of_mem _ hm)⟩
          · exact .inr h1
      · intro j hj
        rcases List.mem_cons.1 hj with rfl | hj
        · exact List.mem_cons_self ..
        · exact List.mem_cons_of_mem _ (h.pdn j hj)
      · intro j hj d hd
        have hji : j ≠ i := fun e => by subst e; exact hnl hj
        rw [upd_ne hji]; exact h.slot j hj d hd
      · intro j hj
        rcases List.mem_cons.1 hj with rfl | hj
        · exact ⟨o, dn, ho, c1, fun k hk => List.mem_cons_of_mem _ hk, .inr (by rw [hEv dn (fun _ h => h), upd_self]; exact hq)⟩
        · obtain ⟨o', p, h1, h3, h4, h5⟩ := h.pq j hj
          have hjd := h.pdn j hj
          refine ⟨o', p, h1, h3, fun k hk => List.mem_cons_of_mem _ (h4 k hk), h5.imp (fun ⟨x0, li, A, x1, x2⟩ => ⟨fun hm => (List.mem_cons.1 hm).elim (fun e => hidn (e ▸ hjd)) x0, li, A, by rw [hEv p h4, hval j hjd]; exact x1, x2⟩) (fun x => by rw [hEv p h4, hval j hjd]; exact x)⟩
      · intro x hx
        obtain ⟨h1, h2, h3⟩ := h.er x hx
        refine ⟨?_, h2, by rw [upd_ne (hiE x hx)]; exact h3⟩
        rcases List.mem_cons.1 h1 with h1 | h1
        · exact absurd (congrArg (·.2) h1) (hiE x hx)
        · exact h1
      · intro j hj
        rcases List.mem_cons.1 hj with rfl | hj
        · exact List.mem_cons_self ..
        · exact List.mem_cons_of_mem _ (h.pnd j hj)
    | (.a, i) :: π, hn, h =>
      by_cases hiE : i ∈ E.map (·.1)
      case neg => exact ⟨val, dn, _, l, E, pend, pn, h, .inr ⟨.a, i, π, rfl, by simp, by simp, fun _ => hiE⟩⟩
      obtain ⟨⟨i', b, ob⟩, hx, rfl⟩ := List.mem_map.1 hiE
      simp only at *
      obtain ⟨d, T, ty, pos, aft, z, cs, ho, hz, hc, hL⟩ := h.lx
      obtain ⟨e1, e2, e3⟩ := h.er _ hx
      have heq : ob = .cells cs.toArray T (0, 0) := e2.eq ⟨d, T, ty, pos, aft, z, cs, ho, hz, hc, rfl⟩
      subst heq
      obtain ⟨c1, c2, c3, c4, c5⟩ := ckAt_spec h.ck
      have hnd := List.nodup_append.1 h.nd
      have hidn : i' ∉ dn := fun hm => hnd.2.2 _ hm _ (by simp) rfl
      have hpn : i' ∉ pend := fun hm => hidn (h.pdn _ hm)
      obtain ⟨E1, E2, rfl⟩ := List.append_of_mem hx
      have hEnd := h.end_
      have hE1 : ∀ x ∈ E1 ++ E2, x.1 ≠ i' := fun x hx he => by
        have hp : (E1 ++ (i', b, Obj.cells cs.toArray T (0, 0)) :: E2).Perm ((i', b, Obj.cells cs.toArray T (0, 0)) :: (E1 ++ E2)) := List.perm_middle
        have := (hp.map (·.1)).nodup_iff.1 hEnd
        exact (List.nodup_cons.1 this).1 (List.mem_map.2 ⟨x, hx, he⟩)
      refine ih (val := val) (dn := i' :: dn) (rest := π) (l := (b, .cells cs.toArray T (0, 0)) :: l) (E := E1 ++ E2) (pend := pend) (pn := pn) (by simpa using hn) ?_
      refine { lsz := h.lsz, asz := h.asz, adf := h.adf, lx := ?_, kp := h.kp.elim fun A hA => ⟨_ :: A, List.Perm.cons _ hA⟩, ck := c5, nd := ?_, all := ?_, lis := ?_, pdn := fun j hj => List.mem_cons_of_mem _ (h.pdn j hj), hv := ?_, slot := h.slot, old := h.old, pq := ?_, er := ?_, end_ := ?_, cl := h.cl, hal := fun x hx => h.hal x (List.mem_cons_of_mem _ hx), pnd := fun j hj => List.mem_cons_of_mem _ (h.pnd j hj) }
      · show Lx c os Q K π (putE (dstOf os i') (val i') (Ev os val e0 dn)) _
        rw [putE_dst ho, e3]; exact hL b
      · have := h.nd; simp only [List.map_cons] at this
        exact (List.perm_middle.nodup_iff).1 this
      · intro j; rw [h.all j]; simp only [List.map_cons, List.mem_cons]
        constructor
        · rintro (h | h | h) <;> simp_all
        · rintro ((h | h) | h) <;> simp_all
      · intro j
        rw [h.lis j]
        simp only [List.map_append, List.map_cons, List.mem_append, List.mem_cons]
        constructor
        · rintro (⟨h1, h2⟩ | (h1 | h1 | h1))
          · exact .inl ⟨.inr h1, h2⟩
          · exact .inr (.inl h1)
          · subst h1; exact .inl ⟨.inl rfl, hpn⟩
          · exact .inr (.inr h1)
        · rintro (⟨h1 | h1, h2⟩ | (h1 | h1))
          · exact .inr (.inr (.inl h1))
          · exact .inl ⟨h1, h2⟩
          · exact .inr (.inl h1)
          · exact .inr (.inr (.inr h1))
      · refine h.hv.perm ?_
        simp only [List.map_append, List.map_cons, List.append_assoc, List.cons_append]
        refine List.Perm.append_left _ ?_
        exact (List.perm_middle.symm)
      · intro j hj
        obtain ⟨o', p, h1, h3, h4, h5⟩ := h.pq j hj
        exact ⟨o', p, h1, h3, fun k hk => List.mem_cons_of_mem _ (h4 k hk), h5.imp (fun ⟨x0, li, A, x1, x2⟩ => ⟨x0, li, (b, .cells cs.toArray T (0, 0)) :: A, x1, List.Perm.cons _ x2⟩) id⟩
      · intro x hx'
        obtain ⟨h1, h2, h3⟩ := h.er x (by
          rcases List.mem_append.1 hx' with h | h
          · exact List.mem_append_left _ h
          · exact List.mem_append_right _ (List.mem_cons_of_mem _ h))
        refine ⟨?_, h2, h3⟩
        rcases List.mem_cons.1 h1 with h1 | h1
        · exact absurd (congrArg (·.2) h1) (hE1 x hx')
        · exact h1
      · have hp : (E1 ++ (i', b, Obj.cells cs.toArray T (0, 0)) :: E2).Perm ((i', b, Obj.cells cs.toArray T (0, 0)) :: (E1 ++ E2)) := List.perm_middle
        exact (List.nodup_cons.1 ((hp.map (·.1)).nodup_iff.1 hEnd)).2

/-- Slots where an operation looks. -/
theorem RI.star (h : RI K c os Q e0 listed a w val dn rest l E pend pn) (g : Rg c os e0) {i : Nat} {o : Oper} (ho : os[i]? = some o) {p : List Nat} (hp : ∀ j ∈ p, j ∈ dn) (hc : ckS os (Bm os) p i)
    (hni : ¬ Lis listed i) (hdep : ∀ j, edge os i j = true → Lis listed j) :
    ∃ a', Ag c.n a' (Ev os val e0 p) ∧ execOp a'.eval o = execOp a.eval o ∧ Region.wanted o (yielded os.toArray a'.tmps) = Region.wanted o (yielded os.toArray a.tmps) := by
  have hbd : ∀ j, Bm os i j = true → j ≠ i → Lis listed j := fun j hb hne => (bef_dep (L := Lis listed) (fun i j => h.cl i j) hdep j hb).resolve_right hne
  have hlt : ∀ j ∈ dn, j < os.length := fun j hj => (h.all j).2 (.inl hj)
  have hdis : ∀ x ∈ p, ∀ y ∈ p, x ≠ y → dstOf os x ≠ none → dstOf os x ≠ dstOf os y := fun x hx y hy => g.dis x y (hlt x (hp x hx)) (hlt y (hp y hy))
  have hlooks : looks os i = o.looksAt os.toArray := by simp [looks, ho]
  have key : ∀ t ∈ o.looksAt os.toArray, ∀ v, gt (Ev os val e0 p) t = some v → a.tmps[t]? = some v := by
    intro t ht v hv
    have ht' : t ∈ looks os i := hlooks ▸ ht
    rcases Ev_get hdis hv with ⟨j, hj, hd, rfl⟩ | ⟨hno, hg⟩
    · have hji : j ≠ i := fun e => hc.2 t ht' (by rw [← e]; exact hd)
      have := hc.1 t ht' j (hlt j (hp j hj)) hji hd
      rw [if_pos hj] at this
      exact h.slot j (hbd j this hji) t hd
    · refine h.old t v hg fun j hj hd => ?_
      have hji : j ≠ i := fun e => hni (by rw [← e]; exact hj)
      have hjl : j < os.length := by
        have := h.lsz
        rcases Nat.lt_or_ge j os.length with h' | h'
        · exact h'
        · exfalso
          have : listed.getD j false = false := by simp [Array.getElem?_eq_none (show listed.size ≤ j by omega)]
          rw [Lis, this] at hj; cases hj
      have := hc.1 t ht' j hjl hji hd
      by_cases hjp : j ∈ p
      · exact hno j hjp hd
      · rw [if_neg hjp] at this
        exact hni (bef_done (L := Lis listed) (fun i j => h.cl i j) j i this hj)
  have hn : ∀ t v, gt (Ev os val e0 p) t = some v → t < c.n := by
    intro t v hv
    rcases Ev_get hdis hv with ⟨j, hj, hd, rfl⟩ | ⟨_, hg⟩
    · exact g.okd j t hd
    · exact g.e0n t v hg
  obtain ⟨a', h1, h2⟩ := Wk.star (ts := o.looksAt os.toArray) h.asz h.adf hn key
  exact ⟨a', h1, eval_alike h2 (g.sel i o · · ho), wanted_alike h2⟩
theorem Lis_set {i j : Nat} (hi : i < listed.size) : Lis (listed.setIfInBounds i true) j ↔ j = i ∨ Lis listed j := by
  unfold Lis
  by_cases h : i = j
  · subst h; simp [hi]
  · rw [getD_set_ne false h]
    constructor
    · exact .inr
    · rintro (h' | h')
      · exact absurd h'.symm h
      · exact h'
/-- What stays behind an operation's put. -/
structure Put (os : List Oper) (e0 : Env) (n : Nat) (listed : Array Bool) (a : Act) (val : Nat → Value) : Prop where
  asz : a.tmps.size = n
  adf : a.defers = []
  slot : ∀ i, Lis listed i → ∀ d, dstOf os i = some d → a.tmps[d]? = some (val i)
  old : ∀ t v, gt e0 t = some v → (∀ i, Lis listed i → dstOf os i ≠ some t) → a.tmps[t]? = some v
theorem RI.put (h : RI K c os Q e0 listed a w val dn rest l E pend pn) (g : Rg c os e0) {i : Nat} {o : Oper} (ho : os[i]? = some o) (hni : ¬ Lis listed i) {val' : Nat → Value} (hv : ∀ j, j ≠ i → val' j = val j) :
    Put os e0 c.n (listed.setIfInBounds i true) (a.put o.dst (val' i)) val' := by
  have hil : i < listed.size := h.lsz ▸ lt_of_os ho
  have hjl : ∀ j, Lis listed j → j < os.length := fun j hj => by
    have := h.lsz
    rcases Nat.lt_or_ge j os.length with h' | h'
    · exact h'
    · exfalso
      have : listed.getD j false = false := by simp [Array.getElem?_eq_none (show listed.size ≤ j by omega)]
      rw [Lis, this] at hj; cases hj
  have hdo := putE_dst ho
  refine ⟨?_, ?_, fun j hj d hd => ?_, fun t v hg hno => ?_⟩
  · cases ho' : o.dst <;> simp [Act.put, h.asz]
  · cases ho' : o.dst <;> simp [Act.put, h.adf]
  · rcases (Lis_set hil).1 hj with rfl | hj
    · rw [hdo] at hd
      have := g.okd j d (hdo ▸ hd)
      simp [Act.put, hd, h.asz, this]
    · have hji : j ≠ i := fun e => hni (e ▸ hj)
      have := h.slot j hj d hd
      rw [hv j hji]
      cases hd' : o.dst with
      | none => simpa [Act.put] using this
      | some d' =>
        have hne : d' ≠ d := fun e => by
          have := g.dis i j (lt_of_os ho) (hjl j hj) (Ne.symm hji) (by rw [hdo, hd']; simp)
          exact this (by rw [hdo, hd', hd, e])
        simpa [Act.put, Array.getElem?_setIfInBounds_ne hne] using this
  · have h1 := h.old t v hg fun j hj => hno j ((Lis_set hil).2 (.inr hj))
    have h2 := hno i ((Lis_set hil).2 (.inl rfl))
    cases hd' : o.dst with
    | none => simpa [Act.put] using h1
    | some d' =>
      have hne : d' ≠ t := fun e => h2 (by rw [hdo, hd', e])
      simpa [Act.put, Array.getElem?_setIfInBounds_ne hne] using h1
theorem RI.cl' (h : RI K c os Q e0 listed a w val dn rest l E pend pn) {i : Nat} {o : Oper} (ho : os[i]? = some o) (hdep : ∀ j, edge os i j = true → Lis listed j) :
    ∀ x y, Lis (listed.setIfInBounds i true) x → edge os x y = true → Lis (listed.setIfInBounds i true) y := by
  have hil : i < listed.size := h.lsz ▸ lt_of_os ho
  intro x y hx he
  rcases (Lis_set hil).1 hx with rfl | hx
  · exact (Lis_set hil).2 (.inr (hdep y he))
  · exact (Lis_set hil).2 (.inr (h.cl x y hx he))
def Some (K : Bl) (c : Cx) (os : List Oper) (Q : Ps) (e0 : Env) (listed : Array Bool) (a : Act) (w : World) : Prop :=
  ∃ val dn rest l E pend pn, RI K c os Q e0 listed a w val dn rest l E pend pn
/-- An operation that is pending comes up. -/
theorem RI.stepP (h : RI K c os Q e0 listed a w val dn rest l E pend pn) (g : Rg c os e0) {i : Nat} (hi : i ∈ pend) (hni : ¬ Lis listed i) (hdep : ∀ j, edge os i j = true → Lis listed j) :
    wpOp c.P os.toArray Q i (fun a' w' => Some K c os Q e0 (listed.setIfInBounds i true) a' w') a w := by
  obtain ⟨o, p, ho, hc, hp, hq⟩ := h.pq i hi
  obtain ⟨a', h1, h2, h3⟩ := h.star g ho hp hc hni hdep
  have hil : i < listed.size := h.lsz ▸ lt_of_os ho
  have hidn := h.pdn i hi
  have next : ∀ w', Hv c.R c.w0 c.l0 (E.map (·.2) ++ l) w' → Some K c os Q e0 (listed.setIfInBounds i true) (a.put o.dst (val i)) w' := fun w' hv' => by
    have hput := h.put g ho hni (val' := val) (fun _ _ => rfl)
    refine ⟨val, dn, rest, l, E, pend.filter (· != i), pn, ?_⟩
    refine { lsz := by simp [h.lsz], asz := hput.asz, adf := hput.adf, lx := h.lx, kp := h.kp, ck := h.ck, nd := h.nd, all := h.all, lis := ?_, pdn := fun j hj => h.pdn j (List.mem_filter.1 hj).1, hv := hv', slot := hput.slot, old := hput.old, pq := fun j hj => h.pq j (List.mem_filter.1 hj).1, er := h.er, end_ := h.end_, cl := h.cl' ho hdep, hal := h.hal, pnd := h.pnd }
    intro j
    rw [Lis_set hil, h.lis j]
    simp only [List.mem_filter, bne_iff_ne]
    constructor
    · rintro (rfl | ⟨x1, x2⟩ | x1)
      · exact .inl ⟨hidn, fun x => x.2 rfl⟩
      · exact .inl ⟨x1, fun x => x2 x.1⟩
      · exact .inr x1
    · rintro (⟨x1, x2⟩ | x1)
      · by_cases hji : j = i
        · exact .inl hji
        · exact .inr (.inl ⟨x1, fun x => x2 ⟨x, hji⟩⟩)
      · exact .inr (.inr x1)
  unfold wpOp
  rw [show os.toArray[i]? = some o by simpa using ho]
  simp only []
  obtain ⟨li, A, hq, hl⟩ : ∃ (li A : Bl), QuF c os li o (Ev os val e0 p) (val i) ∧ l.Perm (A ++ li) := by
    rcases hq with ⟨_, li, A, hq, hl⟩ | hq
    · exact ⟨li, A, hq, hl⟩
    · obtain ⟨A, hA⟩ := h.kp; exact ⟨K, A, hq, hA⟩
  rcases hq with ⟨hw, hq⟩ | ⟨hw, hu⟩
  · rw [← h3, wanted_of h1 hw, if_pos rfl]
    refine .inl ?_
    unfold Oper.wp
    have hv0 : Hv c.R c.w0 c.l0 ((E.map (·.2) ++ A) ++ li) w := h.hv.perm (by rw [List.append_assoc]; exact List.Perm.append_left _ hl)
    have back : ∀ w', Hv c.R c.w0 c.l0 ((E.map (·.2) ++ A) ++ li) w' → Hv c.R c.w0 c.l0 (E.map (·.2) ++ l) w' := fun w' hv' => hv'.perm (by rw [List.append_assoc]; exact List.Perm.append_left _ hl.symm)
    rw [← h2]
    rcases hq _ w hv0 a' h1 with hr | ⟨f, args, hr, hcall⟩
    · rw [hr]; exact next w h.hv
    · rw [hr]
      exact hcall.mono fun en w' ⟨he, hv'⟩ => by subst he; exact next w' (back w' hv')
  · rw [← h3, wanted_of h1 hw, if_neg (by simp)]
    have := next w h.hv
    rwa [hu] at this
/-- An 'alloc' comes up. -/
theorem RI.stepA (h : RI K c os Q e0 listed a w val dn rest l E pend pn) (g : Rg c os e0) {i : Nat} (hi : (Kd.a, i) ∈ rest) (hni : ¬ Lis listed i) (hdep : ∀ j, edge os i j = true → Lis listed j) :
    wpOp c.P os.toArray Q i (fun a' w' => Some K c os Q e0 (listed.setIfInBounds i true) a' w') a w := by
  obtain ⟨ob, hal⟩ := h.hal _ hi rfl
  have hal' := hal
  obtain ⟨d, T, ty, pos, aft, z, cs, ho, hz, hc, rfl⟩ := hal'
  simp only at ho
  have hil : i < listed.size := h.lsz ▸ lt_of_os ho
  have hirest : i ∈ rest.map (·.2) := List.mem_map.2 ⟨_, hi, rfl⟩
  have hidn : i ∉ dn := fun hm => (List.nodup_append.1 h.nd).2.2 _ hm _ hirest rfl
  have hiE : i ∉ E.map (·.1) := fun hm => hni ((h.lis i).2 (.inr hm))
  have hput := h.put g ho hni (val' := upd val i (.pointer (some ⟨w.heap.size, 0, none⟩))) (fun j hj => upd_ne hj)
  rw [upd_self] at hput
  unfold wpOp
  rw [show os.toArray[i]? = some _ by simpa using ho]
  simp only [Region.wanted, if_true]
  refine .inl ?_
  unfold Oper.wp
  have hrun : (execOp a.eval ⟨some d, .alloc T, ty, pos, aft, none⟩).run c.P w = .ok (.value (.pointer (some ⟨w.heap.size, 0, none⟩))) { w with heap := w.heap.push (.cells cs.toArray T (0, 0)) } := by
    simp [execOp, Instr.alloc, hz w, newVar, newRow, newObj, hc, pure, bind, Sem.bind, Sem.run, Sem.run_bind']
  rw [hrun]
  have hval : ∀ j ∈ dn, upd val i (.pointer (some ⟨w.heap.size, 0, none⟩)) j = val j := fun j hj => upd_ne fun e => hidn (e ▸ hj)
  have hEv : ∀ p : List Nat, (∀ j ∈ p, j ∈ dn) → Ev os (upd val i (.pointer (some ⟨w.heap.size, 0, none⟩))) e0 p = Ev os val e0 p := fun p hp => Ev_congr fun j hj => hval j (hp j hj)
  refine ⟨upd val i (.pointer (some ⟨w.heap.size, 0, none⟩)), dn, rest, l, (i, w.heap.size, .cells cs.toArray T (0, 0)) :: E, pend, pn, ?_⟩
  refine { lsz := by simp [h.lsz], asz := hput.asz, adf := hput.adf, lx := by rw [hEv dn fun _ h => h]; exact h.lx, kp := h.kp, ck := h.ck, nd := h.nd, all := h.all, lis := ?_, pdn := h.pdn, hv := ?_, slot := hput.slot, old := hput.old, pq := ?_, er := ?_, end_ := ?_, cl := h.cl' ho hdep, hal := h.hal, pnd := h.pnd }
  · intro j
    rw [Lis_set hil, h.lis j]
    simp only [List.map_cons, List.mem_cons]
    constructor
    · rintro (x | x | x)
      · exact .inr (.inl x)
      · exact .inl x
      · exact .inr (.inr x)
    · rintro (x | x | x)
      · exact .inr (.inl x)
      · exact .inl x
      · exact .inr (.inr x)
  · exact h.hv.alloc _
  · intro j hj
    obtain ⟨o', p, x1, x3, x4, x5⟩ := h.pq j hj
    exact ⟨o', p, x1, x3, x4, by rw [hEv p x4, hval j (h.pdn j hj)]; exact x5⟩
  · intro x hx
    rcases List.mem_cons.1 hx with rfl | hx
    · exact ⟨hi, hal, upd_self⟩
    · obtain ⟨x1, x2, x3⟩ := h.er x hx
      exact ⟨x1, x2, by rw [upd_ne fun e => hiE (List.mem_map.2 ⟨x, hx, e⟩)]; exact x3⟩
  · exact List.nodup_cons.2 ⟨hiE, h.end_⟩
/-- The operation in front comes up: all ahead of it has been done. -/
theorem RI.stepS {i : Nat} {π : List (Kd × Nat)} (h : RI K c os Q e0 listed a w val dn ((.s, i) :: π) l E pend pn) (g : Rg c os e0) (hni : ¬ Lis listed i) (hdep : ∀ j, edge os i j = true → Lis listed j) :
    wpOp c.P os.toArray Q i (fun a' w' => Some K c os Q e0 (listed.setIfInBounds i true) a' w') a w := by
  obtain ⟨o, S, ho, ⟨hw, he⟩, hL⟩ := h.lx
  obtain ⟨c1, c2, c3, c4, c5⟩ := ckAt_spec h.ck
  have hil : i < listed.size := h.lsz ▸ lt_of_os ho
  have hnd := List.nodup_append.1 h.nd
  have hidn : i ∉ dn := fun hm => hnd.2.2 _ hm _ (by simp) rfl
  have hbd : ∀ j, Bm os i j = true → j ≠ i → Lis listed j := fun j hb hne => (bef_dep (L := Lis listed) (fun i j => h.cl i j) hdep j hb).resolve_right hne
  have hpend : ∀ j ∈ pend, j ∈ pn := fun j hj => by
    refine (c3 rfl j (h.pdn j hj)).resolve_left fun hB => ?_
    have h1 := hbd j hB (fun e => hidn (by rw [← e]; exact h.pdn j hj))
    rcases (h.lis j).1 h1 with ⟨_, h2⟩ | h2
    · exact h2 hj
    · exact h.notE (h.pdn j hj) h2
  have hpn : i ∉ pend := fun hm => hidn (h.pdn i hm)
  have hiE : ∀ x ∈ E, x.1 ≠ i := fun x hx he => by
    rcases List.mem_cons.1 (h.er x hx).1 with h3 | h3
    · cases h3
    · exact (List.nodup_cons.1 hnd.2.1).1 (List.mem_map.2 ⟨_, h3, he⟩)
  obtain ⟨a', h1, h2, h3⟩ := h.star g ho (fun _ h => h) c1 hni hdep
  have next : ∀ v l' w', S v l' → Hv c.R c.w0 c.l0 (E.map (·.2) ++ l') w' → Some K c os Q e0 (listed.setIfInBounds i true) (a.put o.dst v) w' := fun v l' w' hS hv' => by
    have hput := h.put g ho hni (val' := upd val i v) (fun j hj => upd_ne hj)
    rw [upd_self] at hput
    have hval : ∀ j ∈ dn, upd val i v j = val j := fun j hj => upd_ne fun e => hidn (e ▸ hj)
    refine ⟨upd val i v, i :: dn, π, l', E, pend, pn, ?_⟩
    refine { lsz := by simp [h.lsz], asz := hput.asz, adf := hput.adf, lx := ?_, kp := (hL v l' hS).1, ck := c5, nd := ?_, all := ?_, lis := ?_, pdn := fun j hj => List.mem_cons_of_mem _ (h.pdn j hj), hv := hv', slot := hput.slot, old := hput.old, pq := ?_, er := ?_, end_ := h.end_, cl := h.cl' ho hdep, hal := fun x hx => h.hal x (List.mem_cons_of_mem _ hx), pnd := fun j hj => List.mem_cons_of_mem _ (h.pnd j hj) }
    · show Lx c os Q K π (putE (dstOf os i) (upd val i v i) (Ev os (upd val i v) e0 dn)) l'
      rw [Ev_congr hval, upd_self, putE_dst ho]; exact (hL v l' hS).2
    · have := h.nd; simp only [List.map_cons] at this
      exact (List.perm_middle.nodup_iff).1 this
    · intro j; rw [h.all j]; simp only [List.map_cons, List.mem_cons]
      constructor
      · rintro (h | h | h) <;> simp_all
      · rintro ((h | h) | h) <;> simp_all
    · intro j
      rw [Lis_set hil, h.lis j]
      simp only [List.mem_cons]
      constructor
      · rintro (x | ⟨x, y⟩ | x)
        · subst x; exact .inl ⟨.inl rfl, hpn⟩
        · exact .inl ⟨.inr x, y⟩
        · exact .inr x
      · rintro (⟨x | x, y⟩ | x)
        · exact .inl x
        · exact .inr (.inl ⟨x, y⟩)
        · exact .inr (.inr x)
    · intro j hj
      obtain ⟨o', p, y1, y3, y4, y5⟩ := h.pq j hj
      have hE : Ev os (upd val i v) e0 p = Ev os val e0 p := Ev_congr fun k hk => hval k (y4 k hk)
      refine ⟨o', p, y1, y3, fun k hk => List.mem_cons_of_mem _ (y4 k hk), .inr ?_⟩
      rw [hE, hval j (h.pdn j hj)]
      rcases y5 with ⟨y5, _⟩ | y5
      · exact absurd (hpend j hj) y5
      · exact y5
    · intro x hx
      obtain ⟨x1, x2, x3⟩ := h.er x hx
      refine ⟨?_, x2, by rw [upd_ne (hiE x hx)]; exact x3⟩
      rcases List.mem_cons.1 x1 with x1 | x1
      · exact absurd (congrArg (·.2) x1) (hiE x hx)
      · exact x1
  unfold wpOp
  rw [show os.toArray[i]? = some o by simpa using ho]
  simp only []
  rw [← h3, wanted_of h1 hw, if_pos rfl]
  refine .inl ?_
  unfold Oper.wp
  rw [← h2]
  rcases he _ w h.hv a' h1 with ⟨v, l', w', hr, hS, hv'⟩ | ⟨l', w', hr, hS, hv'⟩ | ⟨f, args, hr, hcall⟩
  · rw [hr]; exact next v l' w' hS hv'
  · rw [hr]; exact next undef l' w' hS hv'
  · rw [hr]
    exact hcall.mono fun en w' ⟨v, l', he, hS, hv'⟩ => by subst he; exact next v l' w' hS hv'
/-- The operation in front comes up, and makes memory. -/
theorem RI.stepB {i : Nat} {π : List (Kd × Nat)} (h : RI K c os Q e0 listed a w val dn ((.b, i) :: π) l E pend pn) (g : Rg c os e0) (hni : ¬ Lis listed i) (hdep : ∀ j, edge os i j = true → Lis listed j) :
    wpOp c.P os.toArray Q i (fun a' w' => Some K c os Q e0 (listed.setIfInBounds i true) a' w') a w := by
  obtain ⟨o, S, ho, ⟨hw, he⟩, hx, hL⟩ := h.lx
  obtain ⟨c1, c2, c3, c4, c5⟩ := ckAt_spec h.ck
  have hil : i < listed.size := h.lsz ▸ lt_of_os ho
  have hnd := List.nodup_append.1 h.nd
  have hidn : i ∉ dn := fun hm => hnd.2.2 _ hm _ (by simp) rfl
  have hbd : ∀ j, Bm os i j = true → j ≠ i → Lis listed j := fun j hb hne => (bef_dep (L := Lis listed) (fun i j => h.cl i j) hdep j hb).resolve_right hne
  have hpn : i ∉ pend := fun hm => hidn (h.pdn i hm)
  have hiE : ∀ x ∈ E, x.1 ≠ i := fun x hx he => by
    rcases List.mem_cons.1 (h.er x hx).1 with h3 | h3
    · cases h3
    · exact (List.nodup_cons.1 hnd.2.1).1 (List.mem_map.2 ⟨_, h3, he⟩)
  obtain ⟨a', h1, h2, h3⟩ := h.star g ho (fun _ h => h) c1 hni hdep
  have next : ∀ v l' w', S v l' → Hv c.R c.w0 c.l0 (E.map (·.2) ++ l') w' → Some K c os Q e0 (listed.setIfInBounds i true) (a.put o.dst v) w' := fun v l' w' hS hv' => by
    have hput := h.put g ho hni (val' := upd val i v) (fun j hj => upd_ne hj)
    rw [upd_self] at hput
    have hval : ∀ j ∈ dn, upd val i v j = val j := fun j hj => upd_ne fun e => hidn (e ▸ hj)
    obtain ⟨A, rfl⟩ := hx v l' hS
    refine ⟨upd val i v, i :: dn, π, A ++ l, E, pend, pn, ?_⟩
    refine { lsz := by simp [h.lsz], asz := hput.asz, adf := hput.adf, lx := ?_, kp := h.kp.elim fun A' hA => ⟨A ++ A', by rw [List.append_assoc]; exact List.Perm.append_left _ hA⟩, ck := c5, nd := ?_, all := ?_, lis := ?_, pdn := fun j hj => List.mem_cons_of_mem _ (h.pdn j hj), hv := hv', slot := hput.slot, old := hput.old, pq := ?_, er := ?_, end_ := h.end_, cl := h.cl' ho hdep, hal := fun x hx => h.hal x (List.mem_cons_of_mem _ hx), pnd := fun j hj => List.mem_cons_of_mem _ (h.pnd j hj) }
    · show Lx c os Q K π (putE (dstOf os i) (upd val i v i) (Ev os (upd val i v) e0 dn)) (A ++ l)
      rw [Ev_congr hval, upd_self, putE_dst ho]; exact hL v _ hS
    · have := h.nd; simp only [List.map_cons] at this
      exact (List.perm_middle.nodup_iff).1 this
    · intro j; rw [h.all j]; simp only [List.map_cons, List.mem_cons]
      constructor
      · rintro (h | h | h) <;> simp_all
      · rintro ((h | h) | h) <;> simp_all
    · intro j
      rw [Lis_set hil, h.lis j]
      simp only [List.mem_cons]
      constructor
      · rintro (x | ⟨x, y⟩ | x)
        · subst x; exact .inl ⟨.inl rfl, hpn⟩
        · exact .inl ⟨.inr x, y⟩
        · exact .inr x
      · rintro (⟨x | x, y⟩ | x)
        · exact .inl x
        · exact .inr (.inl ⟨x, y⟩)
        · exact .inr (.inr x)
    · intro j hj
      obtain ⟨o', p, y1, y3, y4, y5⟩ := h.pq j hj
      have hE : Ev os (upd val i v) e0 p = Ev os val e0 p := Ev_congr fun k hk => hval k (y4 k hk)
      refine ⟨o', p, y1, y3, fun k hk => List.mem_cons_of_mem _ (y4 k hk), ?_⟩
      rw [hE, hval j (h.pdn j hj)]
      exact y5.imp (fun ⟨z0, li, A', z1, z2⟩ => ⟨z0, li, A ++ A', z1, by rw [List.append_assoc]; exact List.Perm.append_left _ z2⟩) id
    · intro x hx
      obtain ⟨x1, x2, x3⟩ := h.er x hx
      refine ⟨?_, x2, by rw [upd_ne (hiE x hx)]; exact x3⟩
      rcases List.mem_cons.1 x1 with x1 | x1
      · exact absurd (congrArg (·.2) x1) (hiE x hx)
      · exact x1
  unfold wpOp
  rw [show os.toArray[i]? = some o by simpa using ho]
  simp only []
  rw [← h3, wanted_of h1 hw, if_pos rfl]
  refine .inl ?_
  unfold Oper.wp
  rw [← h2]
  rcases he _ w h.hv a' h1 with ⟨v, l', w', hr, hS, hv'⟩ | ⟨l', w', hr, hS, hv'⟩ | ⟨f, args, hr, hcall⟩
  · rw [hr]; exact next v l' w' hS hv'
  · rw [hr]; exact next undef l' w' hS hv'
  · rw [hr]
    exact hcall.mono fun en w' ⟨v, l', he, hS, hv'⟩ => by subst he; exact next v l' w' hS hv'
theorem Some.step (hs : Some K c os Q e0 listed a w) (g : Rg c os e0) {i : Nat} (hi : i ∈ Region.ready .any os.toArray listed) :
    wpOp c.P os.toArray Q i (fun a' w' => Some K c os Q e0 (listed.setIfInBounds i true) a' w') a w := by
  obtain ⟨val, dn, rest, l, E, pend, pn, h0⟩ := hs
  obtain ⟨val, dn, rest, l, E, pend, pn, h, hf⟩ := h0.advance _ rfl
  obtain ⟨hun, o, ho, hall⟩ := mem_ready.1 hi
  have ho' : os[i]? = some o := by simpa using ho
  have hni : ¬ Lis listed i := fun hl => by
    have hlt : i < listed.size := h.lsz ▸ lt_of_os ho'
    simp [hlt] at hun; simp [Lis, hlt, hun] at hl
  have hdep : ∀ j, edge os i j = true → Lis listed j := fun j he => by
    unfold edge at he
    rw [ho'] at he
    obtain ⟨ed, hm, hb⟩ := List.any_eq_true.1 he
    simp only [Bool.and_eq_true, beq_iff_eq] at hb
    have := hall ed (by simpa using hm) hb.1
    rw [hb.2] at this
    exact this
  rcases (h.all i).1 (lt_of_os ho') with hd | hr
  · have hp : i ∈ pend := Classical.byContradiction fun hp => hni ((h.lis i).2 (.inl ⟨hd, hp⟩))
    exact h.stepP g hp hni hdep
  · obtain ⟨⟨k, i'⟩, hm, rfl⟩ := List.mem_map.1 hr
    simp only at *
    rcases hf with rfl | ⟨kf, f, π, rfl, hkf, hkp, haf⟩
    · cases hm
    · by_cases hka : k = .a
      · subst hka
        exact h.stepA g hm hni hdep
      · obtain ⟨c1, c2, c3, c4, c5⟩ := ckAt_spec h.ck
        have hfn : ¬ Lis listed f := h.notLis rfl (by
          cases kf
          · exact absurd rfl hkf
          · exact .inr (haf rfl)
          · exact .inl (by simp)
          · exact .inl (by simp)
          · exact .inl (by simp))
        rcases List.mem_cons.1 hm with hm | hm
        · cases hm
          cases k
          · exact absurd rfl hkf
          · exact absurd rfl hka
          · exact h.stepB g hni hdep
          · exact h.stepS g hni hdep
          · exact absurd rfl hkp
        · rcases c2 hkf hkp _ hm with h1 | h1
          · exact absurd h1 hka
          · exfalso
            refine hfn ?_
            refine (bef_dep (L := Lis listed) (fun i j => h.cl i j) hdep f h1).resolve_right fun e => ?_
            have hnd := (List.nodup_append.1 h.nd).2.1
            simp only [List.map_cons, List.nodup_cons] at hnd
            exact hnd.1 (List.mem_map.2 ⟨_, hm, e.symm⟩)
theorem Some.done (hs : Some K c os Q e0 listed a w) (g : Rg c os e0) (hr : Region.ready .any os.toArray listed = []) : Q .normal a w := by
  obtain ⟨val, dn, rest, l, E, pend, pn, h0⟩ := hs
  obtain ⟨val, dn, rest, l, E, pend, pn, h, hf⟩ := h0.advance _ rfl
  have hall : ∀ i, i < os.length → Lis listed i := by
    intro i
    induction i using Nat.strongRecOn with
    | _ i ih =>
      intro hlt
      refine Classical.byContradiction fun hn => ?_
      have hmem : i ∈ Region.ready .any os.toArray listed := by
        refine mem_ready.2 ⟨?_, os[i], by simp [hlt], fun ed he hb => ?_⟩
        · have : i < listed.size := by rw [h.lsz]; exact hlt
          simp only [Lis, Array.getD_eq_getD_getElem?] at hn
          simp [this] at hn ⊢
          exact hn
        · have hlt' := g.acy i os[i] (by simp [hlt]) ed he hb
          exact ih ed.on hlt' (by omega)
      rw [hr] at hmem; cases hmem
  have hrest : rest = [] := by
    rcases hf with h1 | ⟨k, i, π, rfl, hk, hk', ha⟩
    · exact h1
    · exfalso
      refine h.notLis rfl (k := k) (i := i) ?_ (hall i ((h.all i).2 (.inr (by simp))))
      cases k
      · exact absurd rfl hk
      · exact .inr (ha rfl)
      · exact .inl (by simp)
      · exact .inl (by simp)
      · exact .inl (by simp)
  subst hrest
  have hE : E = [] := by
    cases E with
    | nil => rfl
    | cons x E => have := (h.er x (List.mem_cons_self ..)).1; cases this
  subst hE
  have hdall : ∀ i ∈ dn, i < os.length := fun i hi => (h.all i).2 (.inl hi)
  have hag : Ag c.n a (Ev os val e0 dn) := by
    refine ⟨h.asz, h.adf, fun t v hv => ?_⟩
    rcases Ev_get (fun x hx y hy => g.dis x y (hdall x hx) (hdall y hy)) hv with ⟨j, hj, hd, rfl⟩ | ⟨hno, hg⟩
    · exact h.slot j (hall j (hdall j hj)) t hd
    · refine h.old t v hg fun j hj hd => ?_
      rcases (h.lis j).1 hj with ⟨h1, _⟩ | h1
      · exact hno j h1 hd
      · simp at h1
  have hv : Hv c.R c.w0 c.l0 l w := by simpa using h.hv
  exact h.lx w hv a hag
theorem Some.any (g : Rg c os e0) : ∀ (fuel : Nat) (listed : Array Bool) (a : Act) (w : World), fuel + (listed.toList.count true) = os.length → listed.size = os.length → Some K c os Q e0 listed a w → wpAny c.P .any os.toArray Q fuel listed a w := by
  intro fuel
  induction fuel with
  | zero =>
    intro listed a w hc hsz hs
    have hready : Region.ready .any os.toArray listed = [] := by
      refine List.eq_nil_iff_forall_not_mem.2 fun i hi => ?_
      obtain ⟨hun, o, ho, _⟩ := mem_ready.1 hi
      have hlt : i < listed.size := by rw [hsz]; exact lt_of_os (by simpa using ho)
      have hall : ∀ b ∈ listed.toList, true = b := List.count_eq_length.1 (by simpa [hsz] using hc)
      have := hall listed[i] (by simp)
      simp [hlt, ← this] at hun
    exact ⟨hready, hs.done g hready⟩
  | succ fuel ih =>
    intro listed a w hc hsz hs
    refine ⟨hs.done g, fun i hi => ?_⟩
    obtain ⟨hun, o, ho, _⟩ := mem_ready.1 hi
    have hlt : i < listed.size := by rw [hsz]; exact lt_of_os (by simpa using ho)
    refine wpOp_mono (fun a' w' h' => ih _ a' w' ?_ (by simpa using hsz) h') (hs.step g hi)
    have hfalse : listed[i] = false := by simpa [hlt] using hun
    have : (listed.setIfInBounds i true).toList.count true = listed.toList.count true + 1 := by
      simp only [Array.setIfInBounds, hlt, dif_pos, Array.toList_set]
      rw [List.count_set (by simpa using hlt)]
      simp [hfalse]
    omega
end
/-- The plan's variables. -/
def AlAll (P : Program) (os : List Oper) : List (Kd × Nat) → Prop
  | [] => True
  | (.a, i) :: π => (∃ o, AlF P os i o) ∧ AlAll P os π
  | (.q, _) :: π | (.b, _) :: π | (.s, _) :: π | (.p, _) :: π => AlAll P os π
theorem AlAll.mem {P os} : ∀ {π}, AlAll P os π → ∀ x ∈ π, x.1 = .a → ∃ o, AlF P os x.2 o
  | (k, i) :: π, h, x, hx, hk => by
    rcases List.mem_cons.1 hx with rfl | hx'
    · cases k <;> first | (cases hk; done) | exact h.1
    · clear hx
      cases k
      · exact AlAll.mem (π := π) h x hx' hk
      · exact AlAll.mem h.2 x hx' hk
      · exact AlAll.mem (π := π) h x hx' hk
      · exact AlAll.mem (π := π) h x hx' hk
      · exact AlAll.mem (π := π) h x hx' hk
/-- **A region that draws its order, walked along a plan.** -/
theorem drwK {c : Cx} {id : Nat} {os : List Oper} {Q : Ps} {e : Env} {l : Bl} (K A : Bl) (hK : l.Perm (A ++ K)) (hm : c.P.follows .mixedOrders = true) (π : List (Kd × Nat)) (L : Lit) (hL : Lit.of os = L) (hsel : noSel os = true) (hc : ckPlan L os.length π = true)
    (hal : AlAll c.P os π) (h : Lx c os Q K π e l) : Wc c (.region id os.toArray true) Q e l := by
  subst hL
  intro w hv a ha hok
  simp only [ckPlan, Bool.and_eq_true, beq_iff_eq, List.all_eq_true, List.mem_range, Bool.or_eq_true, decide_eq_true_eq] at hc
  obtain ⟨⟨⟨⟨⟨⟨h1, h2⟩, h3⟩, h3'⟩, h4⟩, h7⟩, h6⟩ := hc
  have h5 := List.all_eq_true.1 hsel
  have hnd : (π.map (·.2)).Nodup := by
    clear h1 h3 h6 h hal
    generalize π.map (·.2) = is at h2
    induction is with
    | nil => exact List.nodup_nil
    | cons i is ih =>
      simp only [distinct, Bool.and_eq_true] at h2
      exact List.nodup_cons.2 ⟨by simpa using h2.1, ih h2.2⟩
  have hok' : ∀ o ∈ os, okD c.n o = true := by simpa [okC, okL] using hok
  have g : Rg c os e := by
    refine ⟨fun i j hi hj hij hn => ?_, fun i o cs b ho heq => ?_, fun i d hd => ?_, fun t v hg => ?_, fun i o ho ed hed hb => ?_⟩
    · rcases h4 _ (Lit.of_zip hi) _ (Lit.of_zip hj) with (x | x) | x
      · exact absurd x hij
      · exact absurd (by simpa using x) hn
      · simpa using x
    · have := h5 o (List.mem_of_getElem? ho)
      rw [heq] at this; cases this
    · simp only [dstOf] at hd
      cases ho : os[i]? with
      | none => simp [ho] at hd
      | some o =>
        simp [ho] at hd
        have := hok' o (List.mem_of_getElem? ho)
        simp [okD, hd] at this
        exact this
    · have := ha.agree t v hg
      have hsz := ha.size
      rcases Nat.lt_or_ge t a.tmps.size with h' | h'
      · omega
      · rw [Array.getElem?_eq_none h'] at this; cases this
    · refine h7 (edgesOf o, i) ?_ ed.on ?_
      · rw [List.mem_zipIdx_iff_getElem?]; simp [Lit.of, ho]
      · exact List.mem_map.2 ⟨ed, List.mem_filter.2 ⟨by simpa using hed, hb⟩, rfl⟩
  refine wp_region_any hm ?_
  have hsub : ∀ i, i < os.length ↔ i ∈ π.map (·.2) := by
    have hsub1 : ∀ i ∈ π.map (·.2), i < os.length := fun i hi => by
      obtain ⟨p, hp, rfl⟩ := List.mem_map.1 hi
      exact h3 p hp
    intro i
    exact ⟨fun hi => by simpa using h3' i hi, hsub1 i⟩
  have := Some.any (K := K) (c := c) (os := os) (Q := Q) (e0 := e) g os.length (Array.replicate os.length false) a { w with drawn := w.drawn + 1 } (by simp [List.count_replicate]) (by simp) ?_
  · simpa using this
  · refine ⟨fun _ => undef, [], π, l, [], [], [], ?_⟩
    have hno : ∀ i, ¬ Lis (Array.replicate os.length false) i := fun i hi => by rw [Lis, getD_replicate_false] at hi; cases hi
    refine { lsz := by simp, asz := ha.size, adf := ha.defers, lx := h, kp := ⟨A, hK⟩, ck := h6, nd := by simpa using hnd, all := fun i => by simpa using hsub i, lis := fun i => ⟨fun hi => absurd hi (hno i), by simp⟩, pdn := by simp, hv := hv.drew _, slot := fun i hi => absurd hi (hno i), old := fun t v hg _ => ha.agree t v hg, pq := by simp, er := by simp, end_ := by simp, cl := fun i j hi => absurd hi (hno i), hal := hal.mem, pnd := by simp }

theorem drw {c : Cx} {id : Nat} {os : List Oper} {Q : Ps} {e : Env} {l : Bl} (hm : c.P.follows .mixedOrders = true) (π : List (Kd × Nat)) (L : Lit) (hL : Lit.of os = L) (hsel : noSel os = true) (hc : ckPlan L os.length π = true)
    (hal : AlAll c.P os π) (h : Lx c os Q [] π e l) : Wc c (.region id os.toArray true) Q e l := drwK [] l (by simp) hm π L hL hsel hc hal h

/-! ## The steps of a plan -/
section
variable {c : Cx} {os : List Oper} {Q : Ps} {e : Env} {l K : Bl} {π : List (Kd × Nat)} {i : Nat} {op : Op} {ty : TypeId} {pos : String} {aft : Array Edge} {v : Value}
theorem Rv.suf {R F l w} (h : Rv R (F ++ l) w) : Rv R l w := (h.start.perm (List.perm_append_comm)).drop.toRv
theorem xq {d : Nat} (ho : os[i]? = some ⟨some d, op, ty, pos, aft, none⟩) (hs : Sp c l ⟨some d, op, ty, pos, aft, none⟩ e v) (h : Lx c os Q K π ((d, v) :: e) l) : Lx c os Q K ((.q, i) :: π) e l :=
  ⟨_, v, ho, .inl ⟨rfl, fun F w hv a ha => .inl (hs w hv.toRv.suf a ha)⟩, h⟩
theorem xp {d : Nat} (ho : os[i]? = some ⟨some d, op, ty, pos, aft, none⟩) (hs : Sp c K ⟨some d, op, ty, pos, aft, none⟩ e v) (h : Lx c os Q K π ((d, v) :: e) l) : Lx c os Q K ((.p, i) :: π) e l :=
  ⟨_, v, ho, .inl ⟨rfl, fun F w hv a ha => .inl (hs w hv.toRv.suf a ha)⟩, h⟩
theorem xpgT {d k t : Nat} {want : Bool} (ho : os[i]? = some ⟨some d, op, ty, pos, aft, some (k, want)⟩) (hd : dstOf os k = some t) (hg : gt e t = some (.bool want)) (hs : Sp c K ⟨some d, op, ty, pos, aft, none⟩ e v) (h : Lx c os Q K π ((d, v) :: e) l) : Lx c os Q K ((.p, i) :: π) e l :=
  ⟨_, v, ho, .inl ⟨⟨t, hd, .inl ⟨want, hg, by simp⟩⟩, fun F w hv a ha => .inl (hs w hv.toRv.suf a ha)⟩, h⟩
theorem xpgF {d k t : Nat} {want b : Bool} (ho : os[i]? = some ⟨some d, op, ty, pos, aft, some (k, want)⟩) (hd : dstOf os k = some t) (hg : gt e t = some (.bool b)) (hne : (b == want) = false) (h : Lx c os Q K π ((d, undef) :: e) l) : Lx c os Q K ((.p, i) :: π) e l :=
  ⟨_, undef, ho, .inr ⟨⟨t, hd, .inl ⟨b, hg, hne.symm⟩⟩, rfl⟩, h⟩
theorem xpgU {d k t : Nat} {want : Bool} (ho : os[i]? = some ⟨some d, op, ty, pos, aft, some (k, want)⟩) (hd : dstOf os k = some t) (hg : gt e t = some undef) (h : Lx c os Q K π ((d, undef) :: e) l) : Lx c os Q K ((.p, i) :: π) e l :=
  ⟨_, undef, ho, .inr ⟨⟨t, hd, .inr ⟨hg, rfl⟩⟩, rfl⟩, h⟩
theorem Sp.guard {d g g'} (h : Sp c l ⟨d, op, ty, pos, aft, g⟩ e v) : Sp c l ⟨d, op, ty, pos, aft, g'⟩ e v := h
theorem xgT {d k t : Nat} {want : Bool} (ho : os[i]? = some ⟨some d, op, ty, pos, aft, some (k, want)⟩) (hd : dstOf os k = some t) (hg : gt e t = some (.bool want)) (hs : Sp c l ⟨some d, op, ty, pos, aft, none⟩ e v) (h : Lx c os Q K π ((d, v) :: e) l) : Lx c os Q K ((.q, i) :: π) e l :=
  ⟨_, v, ho, .inl ⟨⟨t, hd, .inl ⟨want, hg, by simp⟩⟩, fun F w hv a ha => .inl (hs w hv.toRv.suf a ha)⟩, h⟩
theorem xgF {d k t : Nat} {want b : Bool} (ho : os[i]? = some ⟨some d, op, ty, pos, aft, some (k, want)⟩) (hd : dstOf os k = some t) (hg : gt e t = some (.bool b)) (hne : (b == want) = false) (h : Lx c os Q K π ((d, undef) :: e) l) : Lx c os Q K ((.q, i) :: π) e l :=
  ⟨_, undef, ho, .inr ⟨⟨t, hd, .inl ⟨b, hg, hne.symm⟩⟩, rfl⟩, h⟩
theorem xgU {d k t : Nat} {want : Bool} (ho : os[i]? = some ⟨some d, op, ty, pos, aft, some (k, want)⟩) (hd : dstOf os k = some t) (hg : gt e t = some undef) (h : Lx c os Q K π ((d, undef) :: e) l) : Lx c os Q K ((.q, i) :: π) e l :=
  ⟨_, undef, ho, .inr ⟨⟨t, hd, .inr ⟨hg, rfl⟩⟩, rfl⟩, h⟩
theorem xC {d : Nat} {g : Option (Nat × Bool)} {xs : List Operand} {ts : Array TypeId} {vs : List Value} {f : FuncId} (hw : Wn os e ⟨some d, .call ⟨.value (.func f), xs.toArray, ts⟩, ty, pos, aft, g⟩ true) (ho : os[i]? = some ⟨some d, .call ⟨.value (.func f), xs.toArray, ts⟩, ty, pos, aft, g⟩) (hf : Fb c.P f) (hx : evl e xs = some vs)
    (ht : ∀ F : Bl, Tri c.P f vs (fun b o => c.R b o ∨ (b, o) ∈ F) l fun v' l' => v' = v ∧ l' = l) (h : Lx c os Q K π ((d, v) :: e) l) : Lx c os Q K ((.q, i) :: π) e l :=
  ⟨_, v, ho, .inl ⟨hw, fun F w hv a ha => .inr ⟨f, vs.toArray, by rw [run_call ha rfl hx hf w]; simp, by
    have hv1 : Hv c.R c.w0 c.l0 (l ++ F) w := hv.perm List.perm_append_comm
    refine (ht F w hv1.toRv.under).mono ?_
    rintro en w' ⟨v', l', rfl, ⟨rfl, rfl⟩, hw'⟩
    exact ⟨rfl, (hv1.over hw').perm List.perm_append_comm⟩⟩⟩, h⟩
theorem xc {d : Nat} {xs : List Operand} {ts : Array TypeId} {vs : List Value} {f : FuncId} (ho : os[i]? = some ⟨some d, .call ⟨.value (.func f), xs.toArray, ts⟩, ty, pos, aft, none⟩) (hf : Fb c.P f) (hx : evl e xs = some vs)
    (ht : ∀ F : Bl, Tri c.P f vs (fun b o => c.R b o ∨ (b, o) ∈ F) l fun v' l' => v' = v ∧ l' = l) (h : Lx c os Q K π ((d, v) :: e) l) : Lx c os Q K ((.q, i) :: π) e l := xC (g := none) rfl ho hf hx ht h
theorem xcG {d k t : Nat} {want : Bool} {xs : List Operand} {ts : Array TypeId} {vs : List Value} {f : FuncId} (ho : os[i]? = some ⟨some d, .call ⟨.value (.func f), xs.toArray, ts⟩, ty, pos, aft, some (k, want)⟩) (hd : dstOf os k = some t) (hg : gt e t = some (.bool want)) (hf : Fb c.P f) (hx : evl e xs = some vs)
    (ht : ∀ F : Bl, Tri c.P f vs (fun b o => c.R b o ∨ (b, o) ∈ F) l fun v' l' => v' = v ∧ l' = l) (h : Lx c os Q K π ((d, v) :: e) l) : Lx c os Q K ((.q, i) :: π) e l := xC (g := some (k, want)) (show ∃ t, dstOf os k = some t ∧ ((∃ u, gt e t = some (.bool u) ∧ true = (u == want)) ∨ (gt e t = some undef ∧ true = false)) from ⟨t, hd, .inl ⟨want, hg, by simp⟩⟩) ho hf hx ht h
theorem Lx.sub {e e' : Env} (hs : Sub e e') : ∀ {π l}, Lx c os Q K π e' l → Lx c os Q K π e l := by
  intro π
  induction π generalizing e e' with
  | nil => intro l h w hv a ha; exact h w hv a (ha.sub hs)
  | cons p π ih =>
    have hp : ∀ d v, Sub (putE d v e) (putE d v e') := fun d v => by
      cases d with
      | none => exact hs
      | some d => intro s u hu; simp only [putE, gt_cons] at hu ⊢; split at hu <;> simp_all; exact hs s u hu
    have hw : ∀ o b, Wn os e' o b → Wn os e o b := fun o b h => by
      unfold Wn at h ⊢
      split at h
      · exact h
      · obtain ⟨t, h1, h2⟩ := h; exact ⟨t, h1, h2.imp (fun ⟨u, h3, h4⟩ => ⟨u, hs t _ h3, h4⟩) (fun ⟨h3, h4⟩ => ⟨hs t _ h3, h4⟩)⟩
    intro l h
    obtain ⟨k, i⟩ := p
    cases k with
    | q =>
      obtain ⟨o, v, ho, hq, hL⟩ := h
      exact ⟨o, v, ho, hq.imp (fun ⟨x, y⟩ => ⟨hw _ _ x, fun F w hv a ha => y F w hv a (ha.sub hs)⟩) (fun ⟨x, y⟩ => ⟨hw _ _ x, y⟩), ih (hp _ _) hL⟩
    | a =>
      obtain ⟨d, T, ty, pos, aft, z, cs, h1, h2, h3, h4⟩ := h
      exact ⟨d, T, ty, pos, aft, z, cs, h1, h2, h3, fun b => ih (hp (some d) _) (h4 b)⟩
    | p =>
      obtain ⟨o, v, ho, hq, hL⟩ := h
      exact ⟨o, v, ho, hq.imp (fun ⟨x, y⟩ => ⟨hw _ _ x, fun F w hv a ha => y F w hv a (ha.sub hs)⟩) (fun ⟨x, y⟩ => ⟨hw _ _ x, y⟩), ih (hp _ _) hL⟩
    | b =>
      obtain ⟨o, S, ho, ⟨x, y⟩, hx, hL⟩ := h
      exact ⟨o, S, ho, ⟨hw _ _ x, fun F w hv a ha => y F w hv a (ha.sub hs)⟩, hx, fun v l' hS => ih (hp _ _) (hL v l' hS)⟩
    | s =>
      obtain ⟨o, S, ho, ⟨x, y⟩, hL⟩ := h
      exact ⟨o, S, ho, ⟨hw _ _ x, fun F w hv a ha => y F w hv a (ha.sub hs)⟩, fun v l' hS => ⟨(hL v l' hS).1, ih (hp _ _) (hL v l' hS).2⟩⟩
theorem xdec {t : Nat} {b : Bool} (hg : gt e t = some (.bool b)) (h1 : b = true → Lx c os Q K π ((t, .bool true) :: e) l) (h0 : b = false → Lx c os Q K π ((t, .bool false) :: e) l) : Lx c os Q K π e l := by
  have hs : ∀ b', b = b' → Sub e ((t, .bool b') :: e) := fun b' hb s u hu => by
    rw [gt_cons] at hu
    by_cases hk : t = s
    · subst hk; rw [if_pos rfl] at hu; cases hu; rw [hg, hb]
    · rwa [if_neg hk] at hu
  cases hb : b
  · exact (h0 hb).sub (hs _ hb)
  · exact (h1 hb).sub (hs _ hb)
theorem xdecd {t : Nat} {p : Prop} [Decidable p] (hg : gt e t = some (.bool (decide p))) (h1 : p → Lx c os Q K π ((t, .bool true) :: e) l) (h0 : ¬ p → Lx c os Q K π ((t, .bool false) :: e) l) : Lx c os Q K π e l :=
  xdec hg (fun h => h1 (of_decide_eq_true h)) (fun h => h0 (of_decide_eq_false h))
theorem xa {d : Nat} {T : TypeId} {z : Value} {cs : List Value} (ho : os[i]? = some ⟨some d, .alloc T, ty, pos, aft, none⟩) (hz : Zr c.P T z) (hc : z.cells = cs.toArray) (h : ∀ b, Lx c os Q K π ((d, .pointer (some ⟨b, 0, none⟩)) :: e) ((b, .cells cs.toArray T (0, 0)) :: l)) : Lx c os Q K ((.a, i) :: π) e l :=
  ⟨d, T, ty, pos, aft, z, cs, ho, hz, hc, h⟩
theorem alF {d : Nat} {T : TypeId} {z : Value} {cs : List Value} (ho : os[i]? = some ⟨some d, .alloc T, ty, pos, aft, none⟩) (hz : Zr c.P T z) (hc : z.cells = cs.toArray) : ∃ o, AlF c.P os i o := ⟨_, d, T, ty, pos, aft, z, cs, ho, hz, hc, rfl⟩
/-- An operation with an effect, whatever else there is. -/
def Ef (c : Cx) (l : Bl) (d : Option Tmp) (op : Op) (e : Env) (S : Value → Bl → Prop) : Prop :=
  ∀ F w, Hv c.R c.w0 c.l0 (F ++ l) w → ∀ a, Ag c.n a e → ∀ ty pos aft g,
    (∃ v l' w', (execOp a.eval ⟨d, op, ty, pos, aft, g⟩).run c.P w = .ok (.value v) w' ∧ S v l' ∧ Hv c.R c.w0 c.l0 (F ++ l') w') ∨
    (∃ l' w', (execOp a.eval ⟨d, op, ty, pos, aft, g⟩).run c.P w = .ok .skip w' ∧ S undef l' ∧ Hv c.R c.w0 c.l0 (F ++ l') w') ∨
    (∃ f args, (execOp a.eval ⟨d, op, ty, pos, aft, g⟩).run c.P w = .ok (.enter f args) w ∧ Calls c.P f args w fun en w' => ∃ v l', en = .returned v ∧ S v l' ∧ Hv c.R c.w0 c.l0 (F ++ l') w')
theorem xsK {d : Option Tmp} {S : Value → Bl → Prop} (ho : os[i]? = some ⟨d, op, ty, pos, aft, none⟩) (he : Ef c l d op e S) (hK : ∀ v l', S v l' → ∃ A : Bl, l'.Perm (A ++ K)) (h : ∀ v l', S v l' → Lx c os Q K π (putE d v e) l') : Lx c os Q K ((.s, i) :: π) e l :=
  ⟨_, S, ho, ⟨rfl, fun F w hv a ha => he F w hv a ha _ _ _ _⟩, fun v l' hS => ⟨hK v l' hS, h v l' hS⟩⟩
theorem xs {d : Option Tmp} {S : Value → Bl → Prop} (ho : os[i]? = some ⟨d, op, ty, pos, aft, none⟩) (he : Ef c l d op e S) (h : ∀ v l', S v l' → Lx c os Q [] π (putE d v e) l') : Lx c os Q [] ((.s, i) :: π) e l :=
  xsK ho he (fun v l' _ => ⟨l', by simp⟩) h
theorem xb {d : Option Tmp} {S : Value → Bl → Prop} (ho : os[i]? = some ⟨d, op, ty, pos, aft, none⟩) (he : Ef c l d op e S) (hA : ∀ v l', S v l' → ∃ A, l' = A ++ l) (h : ∀ v l', S v l' → Lx c os Q K π (putE d v e) l') : Lx c os Q K ((.b, i) :: π) e l :=
  ⟨_, S, ho, ⟨rfl, fun F w hv a ha => he F w hv a ha _ _ _ _⟩, hA, h⟩
/-- .. in a region that does not draw. -/
theorem eo {ops : Array Oper} {rest : List Oper} {d : Option Tmp} {S : Value → Bl → Prop} (he : Ef c l d op e S) (h : ∀ v l', S v l' → Wo c ops Q rest (putE d v e) l') : Wo c ops Q (⟨d, op, ty, pos, aft, none⟩ :: rest) e l := by
  intro hok w hv a ha
  obtain ⟨h1, h2⟩ := okL_cons hok
  have hag : ∀ v, Ag c.n (a.put d v) (putE d v e) := fun v => by
    cases d with
    | none => exact ha.putN v
    | some d => exact ha.put (okD_some h1) v
  refine wpList_plain0 rfl ?_
  unfold Oper.wp
  rcases he [] w (by simpa using hv) a ha ty pos aft none with ⟨v, l', w', hr, hS, hv'⟩ | ⟨l', w', hr, hS, hv'⟩ | ⟨f, args, hr, hcall⟩
  · rw [hr]; exact h v l' hS h2 w' (by simpa using hv') _ (hag v)
  · rw [hr]; exact h undef l' hS h2 w' (by simpa using hv') _ (hag undef)
  · rw [hr]
    refine hcall.mono ?_
    rintro en w' ⟨v, l', rfl, hS, hv'⟩
    exact h v l' hS h2 w' (by simpa using hv') _ (hag v)
/-! ### The effects -/
variable {x y : Operand} {u : Value} {T : TypeId}
theorem eNew {d : Option Tmp} {o : Obj} {vf : Nat → Value} (h : ∀ a w ty pos aft g, Ag c.n a e → (execOp a.eval ⟨d, op, ty, pos, aft, g⟩).run c.P w = .ok (.value (vf w.heap.size)) { w with heap := w.heap.push o }) :
    Ef c l d op e fun v l' => ∃ b, v = vf b ∧ l' = (b, o) :: l := fun F w hv a ha ty pos aft g =>
  .inl ⟨_, _, _, h a w ty pos aft g ha, ⟨_, rfl, rfl⟩, (hv.alloc o).perm (List.perm_middle.symm)⟩
theorem eBx {d : Nat} {cs : List Value} (hx : ev e x = some v) (hc : v.cells = cs.toArray) : Ef c l (some d) (.box T x) e fun v l' => ∃ b, v = .pointer (some ⟨b, 0, none⟩) ∧ l' = (b, .cells cs.toArray T (0, 0)) :: l :=
  eNew (vf := fun b => .pointer (some ⟨b, 0, none⟩)) fun a w ty pos aft g ha => by simp [execOp, Instr.box, ha.eval hx, newVar, newRow, newObj, hc, pure, bind, Sem.bind, Sem.run, Sem.run_bind']
theorem eAl {d : Nat} {cs : List Value} (hz : Zr c.P T v) (hc : v.cells = cs.toArray) : Ef c l (some d) (.alloc T) e fun v l' => ∃ b, v = .pointer (some ⟨b, 0, none⟩) ∧ l' = (b, .cells cs.toArray T (0, 0)) :: l :=
  eNew (vf := fun b => .pointer (some ⟨b, 0, none⟩)) fun a w ty pos aft g ha => by simp [execOp, Instr.alloc, hz w, newVar, newRow, newObj, hc, pure, bind, Sem.bind, Sem.run, Sem.run_bind']
theorem eMk {d : Nat} : Ef c l (some d) (.makeMap T none) e fun v l' => ∃ b, v = .map (some b) ∧ l' = (b, .map #[] 0) :: l :=
  eNew (vf := fun b => .map (some b)) fun a w ty pos aft g ha => by simp [execOp, Instr.makeMap, newObj, pure, bind, Sem.bind, Sem.run, Sem.run_bind']
theorem extA {P : Value → Nat → Prop} {o : Obj} : ∀ (v : Value) (l' : Bl), (∃ b, P v b ∧ l' = (b, o) :: l) → ∃ A, l' = A ++ l := fun v l' ⟨b, _, h⟩ => ⟨[(b, o)], h⟩
theorem eSt {b k : Nat} {cs cs' : List Value} {E : TypeId} {l' : Bl} (hs : Sz c.P T 1) (hx : ev e x = some (.pointer (some ⟨b, k, none⟩))) (hy : ev e y = some v) (h1 : one v = true)
    (hi : In l b (.cells cs.toArray E (0, 0)) (.cells cs'.toArray E (0, 0)) l') (hu : UpC cs k v cs') : Ef c l none (.store T x y) e fun _ l'' => l'' = l' := fun F w hv a ha ty pos aft g =>
  .inr (.inl ⟨l', _, by
    have := hv.run_store (P := c.P) (List.mem_append_right F hi.mem) (k := k) (by simpa using hu.eq.2) h1
    unfold execOp
    simp only [ha.eval hx, ha.eval hy, Instr.storeAt, Instr.sureAddr, storeVar, Sem.run_bind, hs w, Result.andThen_ok, cells_one h1, storeCells, add_none, Nat.add_zero, this, pure, Sem.run]
    simp [storeCells, this, Sem.run_bind, pure, Sem.run, add_none], rfl, hv.set (.r hi) hu⟩)
theorem eStA {b k n : Nat} {cs cs' vs : List Value} {E : TypeId} {l' : Bl} (hs : Sz c.P T n) (hx : ev e x = some (.pointer (some ⟨b, k, none⟩))) (hy : ev e y = some (.agg vs.toArray)) (hn : vs.length = n) (h1 : vs.all one = true)
    (hi : In l b (.cells cs.toArray E (0, 0)) (.cells cs'.toArray E (0, 0)) l') (hu : UpM cs k vs cs') : Ef c l none (.store T x y) e fun _ l'' => l'' = l' := fun F w hv a ha ty pos aft g => by
  obtain ⟨A, B, rfl, rfl⟩ := hi.eq
  have hv' : Hv c.R c.w0 c.l0 ((F ++ A) ++ (b, Obj.cells cs.toArray E (0, 0)) :: B) w := by simpa using hv
  obtain ⟨w', hr, hw⟩ := Hv.run_stores (P := c.P) vs (k := k) (i := 0) hv' hu h1
  refine .inr (.inl ⟨_, w', ?_, rfl, by simpa using hw⟩)
  unfold execOp
  simp only [ha.eval hx, ha.eval hy, Instr.storeAt, Instr.sureAddr, storeVar, Sem.run_bind, hs w, Result.andThen_ok, Value.cells, pure, Sem.run]
  simp [hn, hr, Sem.run_bind, pure, Sem.run]
/-- A call. -/
theorem eCl {d : Option Tmp} {xs : List Operand} {ts : Array TypeId} {vs : List Value} {f : FuncId} {S : Value → Bl → Prop} (hf : Fb c.P f) (hx : evl e xs = some vs)
    (ht : ∀ F : Bl, Tri c.P f vs (fun b o => c.R b o ∨ (b, o) ∈ F) l S) : Ef c l d (.call ⟨.value (.func f), xs.toArray, ts⟩) e S := fun F w hv a ha ty pos aft g =>
  .inr (.inr ⟨f, vs.toArray, by rw [run_call ha rfl hx hf w]; simp, by
    have hv1 : Hv c.R c.w0 c.l0 (l ++ F) w := hv.perm List.perm_append_comm
    refine (ht F w hv1.toRv.under).mono ?_
    rintro en w' ⟨v', l', rfl, hS, hw'⟩
    exact ⟨v', l', rfl, hS, (hv1.over hw').perm List.perm_append_comm⟩⟩)
theorem mF {R : Rd} {l F : Bl} {b o} (h : Has R l b o) : Has (fun b o => R b o ∨ (b, o) ∈ F) l b o := h.imp .inl id
end
end Go.Wk
