import Derived.RangeFuncIn
import Derived.RangeFuncRecord
import Derived.RangeFuncSeq
import Derived.RangeFuncLeaves
import Derived.TacticsIn
import Derived.Test.YtoecfgldnlglnaaG4
set_option linter.unusedVariables false
set_option linter.unusedSimpArgs false
set_option linter.unusedSectionVars false
set_option maxRecDepth 20000
namespace Go.Wk
open Go
/-! # A range over a function -/
def FW (ro : Option Nat) : Fence := { Fence.wide with round := ro }
theorem callsFW {ro : Option Nat} {n : Nat} {P : Program} {f : FuncId} {args : Array Value} {w : World} {R : Ending → World → Prop} (h : Calls P f args w R) : CallsIn (FW ro) n P f args w R :=
  ⟨trivial, ((callsIn_wide (n := n)).2 h).2⟩
/-- Slots, beside deferred calls. -/
structure AgD (ds : List Deferred) (n : Nat) (a : Act) (e : Env) : Prop where
  size : a.tmps.size = n
  defers : a.defers = ds
  agree : ∀ t v, gt e t = some v → a.tmps[t]? = some v
theorem AgD.ag {ds n a e} (h : AgD ds n a e) : Ag n { a with defers := [] } e := ⟨h.size, rfl, h.agree⟩
theorem Ag.d {n a e} (h : Ag n a e) : AgD [] n a e := ⟨h.size, h.defers, h.agree⟩
theorem AgD.put {ds n a e d} (h : AgD ds n a e) (hd : d < n) (v : Value) : AgD ds n (a.put (some d) v) ((d, v) :: e) :=
  let h' := h.ag.put hd v; ⟨h'.size, h.defers, h'.agree⟩
theorem AgD.putN {ds n a e} (h : AgD ds n a e) (v : Value) : AgD ds n (a.put none v) e := h
theorem AgD.sub {ds n a e e'} (h : AgD ds n a e) (hs : Sub e e') : AgD ds n a e' := ⟨h.size, h.defers, fun t v hv => h.agree t v (hs t v hv)⟩
def DnD (ds : List Deferred) (c : Cx) (Q : Ps) (x : Exit) (e : Env) (l : Bl) : Prop := ∀ w, Hv c.R c.w0 c.l0 l w → ∀ a, AgD ds c.n a e → Q x a w
def WoF (ro : Option Nat) (ds : List Deferred) (n : Nat) (c : Cx) (ops : Array Oper) (Q : Ps) (rest : List Oper) (e : Env) (l : Bl) : Prop :=
  okL c.n rest = true → ∀ w, Hv c.R c.w0 c.l0 l w → ∀ a, AgD ds c.n a e → wpListIn (FW ro) n c.P ops Q rest a w
def WcF (ro : Option Nat) (ds : List Deferred) (n : Nat) (c : Cx) (code : Code) (Q : Ps) (e : Env) (l : Bl) : Prop :=
  ∀ w, Hv c.R c.w0 c.l0 l w → ∀ a, AgD ds c.n a e → okC c.n code = true → code.wpIn (FW ro) n c.P Q a w
def SqF (ro : Option Nat) (n m : Nat) (P : Program) (y : Code) (Q : Ps) : Ps := Exit.then (fun a w => okC m y = true → y.wpIn (FW ro) n P Q a w) Q
/-- A call of yield: the round is done. -/
def Yd (P : Program) (lid : Nat) (vs : List Value) (R : Rd) (l : Bl) (S : Bl → Prop) : Prop :=
  ∀ w, Rv R l w → ∀ m, YieldAt Fence.wide m P lid vs.toArray w fun en w' => en = .returned (.bool true) ∧ ∃ l', S l' ∧ Hv R w l l' w'
section
variable {ro : Option Nat} {ds : List Deferred} {n : Nat} {c : Cx} {ops : Array Oper} {Q : Ps} {rest : List Oper} {e : Env} {l : Bl} {ty : TypeId} {pos : String} {aft : Array Edge}
theorem seqF {x y : Code} (h : WcF ro ds n c x (SqF ro n c.n c.P y Q) e l) : WcF ro ds n c (.seq x y) Q e l := by
  intro w hv a ha hok
  simp only [okC, Bool.and_eq_true] at hok
  refine wpIn_seq (wpIn_mono (h w hv a ha hok.1) ?_)
  intro x a w hq
  cases x <;> first | exact hq hok.2 | exact hq
theorem regF {id : Nat} {os : List Oper} (h : WoF ro ds n c os.toArray Q os e l) : WcF ro ds n c (.region id os.toArray false) Q e l :=
  fun w hv a ha hok => wpIn_region_lit (h (by simpa [okC] using hok) w hv a ha)
theorem blkF {id : Nat} {x : Code} (h : WcF ro ds n c x (Exit.inBlock id Q) e l) : WcF ro ds n c (.block id x) Q e l := fun w hv a ha hok => wpIn_block (h w hv a ha hok)
theorem retF (h : DnD ds c Q .ret e l) : WcF ro ds n c .ret Q e l := fun w hv a ha _ => wpIn_ret (h w hv a ha)
theorem enDF (h : DnD ds c Q .normal e l) : WoF ro ds n c ops Q [] e l := fun _ w hv a ha => h w hv a ha
theorem dSqF {m : Nat} {y : Code} (h : WcF ro ds m c y Q e l) : DnD ds c (SqF ro m c.n c.P y Q) .normal e l := h
theorem dBnF {id} (h : DnD ds c Q .normal e l) : DnD ds c (Exit.inBlock id Q) .normal e l := h
theorem wideW {x : Code} (h : WcF none [] n c x Q e l) : Wc c x Q e l := fun w hv a ha hok => wpIn_wide.1 (h w hv a ha.d hok)
theorem wpListIn_cons {F : Fence} {P : Program} {o : Oper} {a : Act} {w : World} (hg : o.guard = none) (hop : ∀ k, o.op ≠ .defer k) (hF : ∀ f, F.fn f) (h : o.uponIn F n P a (wpListIn F n P ops Q rest) Q ((execOp a.eval o).run P w)) : wpListIn F n P ops Q (o :: rest) a w := by
  rw [wpListIn, if_pos (by simp [Region.wanted, hg])]
  exact ⟨fun f _ => hF f, by rw [Oper.semAt_eq _ _ _ hop]; exact h⟩
theorem qF {v : Value} {op : Op} {d : Nat} (hop : ∀ k, op ≠ .defer k) (hs : Sp c l ⟨some d, op, ty, pos, aft, none⟩ e v) (h : WoF ro ds n c ops Q rest ((d, v) :: e) l) : WoF ro ds n c ops Q (⟨some d, op, ty, pos, aft, none⟩ :: rest) e l := by
  intro hok w hv a ha
  obtain ⟨h1, h2⟩ := okL_cons hok
  refine wpListIn_cons rfl hop (fun _ => trivial) ?_
  rw [show (execOp a.eval ⟨some d, op, ty, pos, aft, none⟩).run c.P w = .ok (.value v) w from hs w hv.toRv { a with defers := [] } ha.ag]
  exact h h2 w hv _ (ha.put (okD_some h1) v)
theorem eoF {d : Option Tmp} {op : Op} {S : Value → Bl → Prop} (hop : ∀ k, op ≠ .defer k) (he : Ef c l d op e S) (h : ∀ v l', S v l' → WoF ro ds n c ops Q rest (putE d v e) l') : WoF ro ds n c ops Q (⟨d, op, ty, pos, aft, none⟩ :: rest) e l := by
  intro hok w hv a ha
  obtain ⟨h1, h2⟩ := okL_cons hok
  have hag : ∀ v, AgD ds c.n (a.put d v) (putE d v e) := fun v => by
    cases d with
    | none => exact ha.putN v
    | some d => exact ha.put (okD_some h1) v
  refine wpListIn_cons rfl hop (fun _ => trivial) ?_
  rcases he [] w (by simpa using hv) { a with defers := [] } ha.ag ty pos aft none with ⟨v, l', w', hr, hS, hv'⟩ | ⟨l', w', hr, hS, hv'⟩ | ⟨f, args, hr, hcall⟩
  · rw [show (execOp a.eval ⟨d, op, ty, pos, aft, none⟩).run c.P w = _ from hr]; exact h v l' hS h2 w' (by simpa using hv') _ (hag v)
  · rw [show (execOp a.eval ⟨d, op, ty, pos, aft, none⟩).run c.P w = _ from hr]; exact h undef l' hS h2 w' (by simpa using hv') _ (hag undef)
  · rw [show (execOp a.eval ⟨d, op, ty, pos, aft, none⟩).run c.P w = _ from hr]
    refine ⟨fun h => by simp [FW, Fence.wide] at h, callsFW (hcall.mono ?_)⟩
    rintro en w' ⟨v, l', rfl, hS, hv'⟩
    exact h v l' hS h2 w' (by simpa using hv') _ (hag v)
/-- A call of yield. -/
theorem yF {d lid : Nat} {fo : Operand} {xs : List Operand} {ts : Array TypeId} {vs : List Value} {S : Bl → Prop} (hfo : ev e fo = some (.func (.yield lid) #[] #[])) (hx : evl e xs = some vs) (hy : Yd c.P lid vs c.R l S)
    (h : ∀ l', S l' → WoF none ds n c ops Q rest ((d, .bool true) :: e) l') : WoF none ds n c ops Q (⟨some d, .call ⟨.value fo, xs.toArray, ts⟩, ty, pos, aft, none⟩ :: rest) e l := by
  intro hok w hv a ha
  obtain ⟨h1, h2⟩ := okL_cons hok
  refine wpListIn_cons rfl (by intro k hk; cases hk) (fun _ => trivial) ?_
  obtain ⟨fn, tmps, assign, body, hr, hR⟩ := hy w hv.toRv (n - 1)
  have h3 : xs.toArray.map a.eval = vs.toArray := by
    have := congrArg List.toArray (evl_eq ha.ag hx)
    rw [List.map_toArray]; exact this
  have h4 : a.eval fo = .func (.yield lid) #[] #[] := ha.ag.eval hfo
  have hrun : (execOp a.eval ⟨some d, .call ⟨.value fo, xs.toArray, ts⟩, ty, pos, aft, none⟩).run c.P w = .ok (.round lid fn tmps assign body) w := by
    unfold execOp
    simp only [resolve, h4, h3, Deferred.ofValue, Sem.run_bind]
    simp [pure, Sem.run, invoke, hr]
  rw [hrun]
  refine ⟨fun h => by simp [FW, Fence.wide] at h, RoundIn.mono hR ?_⟩
  rintro en w' ⟨rfl, l', hS, hw'⟩
  have hv0 : Hv c.R c.w0 c.l0 (l ++ []) w := by simpa using hv
  have := hv0.over (F := []) (l' := l') (w' := w') (by
    have : (fun b o => c.R b o ∨ (b, o) ∈ ([] : Bl)) = c.R := by funext b o; simp
    rw [this]; exact hw')
  exact h l' hS h2 w' (by simpa using this) _ (ha.put (okD_some h1) _)
theorem YieldAt.mono {F : Fence} {m : Nat} {P : Program} {l : Nat} {args : Array Value} {W : World} {R R' : Ending → World → Prop} (h : YieldAt F m P l args W R) (hr : ∀ e w, R e w → R' e w) : YieldAt F m P l args W R' :=
  let ⟨fn, tmps, assign, body, h1, h2⟩ := h; ⟨fn, tmps, assign, body, h1, RoundIn.mono h2 hr⟩
theorem Yd.frame {P : Program} {lid : Nat} {vs : List Value} {R : Rd} {S : Bl → Prop} (F : Bl) (h : Yd P lid vs (fun b o => R b o ∨ (b, o) ∈ F) l S) : Yd P lid vs R (l ++ F) fun l' => ∃ l₁, l' = l₁ ++ F ∧ S l₁ :=
  fun w hv m => YieldAt.mono (h w hv.under m) fun _ _ ⟨he, l', hS, hw⟩ => ⟨he, l' ++ F, ⟨l', rfl, hS⟩, hv.start.over hw⟩
theorem Yd.perm {P : Program} {lid : Nat} {vs : List Value} {R : Rd} {l l₁ : Bl} {S : Bl → Prop} (p : l.Perm l₁) (h : Yd P lid vs R l₁ S) : Yd P lid vs R l S :=
  fun w hv m => YieldAt.mono (h w (hv.perm p) m) fun _ _ ⟨he, l', hS, hw⟩ => ⟨he, l', hS, { hw with
    new := fun b hb => (hw.new b hb).imp (fun h1 => (p.map _).mem_iff.2 h1) id
    ext := fun b hb hn => hw.ext b hb fun h1 => hn ((p.map _).mem_iff.2 h1) }⟩
/-- Behind a round's assignments. -/
def bgQ (P : Program) (lid n m : Nat) (body : Code) (Q : Ps) : Ps :=
  Exit.then (fun a₁ w₁ => okC m body = true → ∃ w₂, (Instr.beginRound lid).run P w₁ = .ok () w₂ ∧ body.wpIn (FW (some lid)) n P Q a₁ w₂) (fun _ _ _ => False)
theorem dBg {lid : Nat} {body : Code} {r : Loop} {l' : Bl} (hi : In l lid (.loop r) (.loop { r with state := .busy }) l') (hr : r.state = .ready) (h : WcF (some lid) ds n c body Q e l') : DnD ds c (bgQ c.P lid n c.n body Q) .normal e l :=
  fun w hv a ha hok => ⟨_, run_beginRound (hv.own _ _ hi.mem) hr, h _ (hv.obj hi) a ha hok⟩
/-- The end of a round. -/
theorem dEr {lid : Nat} {r : Loop} {l' : Bl} {S : Bl → Prop} (hi : In l lid (.loop r) (.loop { r with state := .ready, pending := none }) l') (hS : S l') :
    DnD ds c (roundPost c.P lid fun en w' => en = .returned (.bool true) ∧ ∃ l', S l' ∧ Hv c.R c.w0 c.l0 l' w') .normal e l :=
  fun w hv a ha => ⟨_, _, run_endRound none (hv.own _ _ hi.mem), rfl, l', hS, hv.obj hi⟩
/-- A round, out of its assignments and its body. -/
theorem Yd.mk {P : Program} {lid nt t : Nat} {x : Value} {R : Rd} {S : Bl → Prop} {r : Loop} (hl : (lid, Obj.loop r) ∈ l) (hp : r.params = #[t]) (ht : t < nt) (hag : Ag nt { tmps := r.tmps, defers := [] } e) (hok : okC nt r.assign = true ∧ okC nt r.body = true)
    (h : ∀ w0 m, WcF (some lid) [] m ⟨P, nt, R, w0, l⟩ r.assign (bgQ P lid m nt r.body (roundPost P lid fun en w' => en = .returned (.bool true) ∧ ∃ l', S l' ∧ Hv R w0 l l' w')) ((t, x) :: e) l) : Yd P lid [x] R l S := by
  intro w hr m
  refine ⟨r.fn, _, r.assign, r.body, run_yield (hr.own _ _ hl) (by rw [hp]; rfl), roundIn_of_wpIn trivial ?_⟩
  have ha : AgD [] nt { tmps := (r.params.zip #[x]).foldl (fun tmps (t, a) => tmps.setIfInBounds t a) r.tmps, defers := [] } ((t, x) :: e) := by
    have := hag.put (d := t) ht x
    have e1 : (r.params.zip #[x]).foldl (fun tmps (p : Tmp × Value) => tmps.setIfInBounds p.1 p.2) r.tmps = r.tmps.setIfInBounds t x := by rw [hp]; simp
    exact ⟨by rw [e1]; exact this.size, rfl, fun t' v hv => by rw [e1]; exact this.agree t' v hv⟩
  refine wpIn_mono (h w m w hr.start _ ha hok.1) ?_
  intro x a w hq
  cases x with
  | normal => exact hq hok.2
  | _ => exact hq
end
end Go.Wk
namespace Go.Wk
open Go
theorem dnD {c : Cx} {Q : Ps} {x : Exit} {e : Env} {l : Bl} (h : Dn c Q x e l) : DnD [] c Q x e l := fun w hv a ha => h w hv a ⟨ha.size, ha.defers, ha.agree⟩
end Go.Wk
namespace Go.Wk
open Go
section
variable {n : Nat} {c : Cx} {Q : Ps} {e : Env} {l : Bl}
theorem enterM {P : Program} {f : FuncId} {fn : Func} {b : Code} {n : Nat} {args : List Value} {R : Rd} {l : Bl} {S : Value → Bl → Prop} (hf : P.funcs[f]? = some fn) (hb : fn.body = some b) (hn : fn.ntmps = n) (hok : okC n b = true) (hl : Nat.ble args.length n = true)
    (h : ∀ w0, WcF none [] 5 ⟨P, n, R, w0, l⟩ b (bodyPostM Fence.wide 5 P fn fun e w' => ∃ v l', e = .returned v ∧ S v l' ∧ Hv R w0 l l' w') (mk 0 args) l) : Tri P f args R l S := by
  intro w hv
  refine (callsIn_wide (n := 5)).1 (callsIn_of_wp_marks hf hb trivial ?_)
  refine h w w hv.start _ ⟨?_, rfl, ?_⟩ hok
  · simp [hn]; have := Nat.le_of_ble_eq_true hl; omega
  · intro t v ht
    obtain ⟨_, h2⟩ := mk_get args 0 t v ht
    have hlt : t < args.length := by
      rcases Nat.lt_or_ge t args.length with h3 | h3
      · exact h3
      · simp [h3] at h2
    have h3 : args[t]? = some v := by simpa using h2
    simp [Array.getElem?_append, hlt, h3]
    simpa [hlt] using h3
theorem rgF {gop : Operand} {assign body : Code} {t fi : Nat} {lb : List Value} {S : Bl → Prop} (hg : ev e gop = some (.func (.func fi) #[] (List.toArray lb))) (hf : Fb c.P fi)
    (hit : ∀ lid D fn tmps, Ag c.n { tmps := tmps, defers := [] } e → Tri c.P fi (.func (.yield lid) #[] #[] :: lb) c.R ((lid, .loop { state := .ready, pending := none, fn, tmps, params := #[t], assign, body, defers := D }) :: (D, .deferred (some [])) :: l)
      fun v l' => ∃ r l2, l' = (lid, .loop r) :: (D, .deferred (some [])) :: l2 ∧ r.state = .ready ∧ r.pending = none ∧ S l2)
    (h : ∀ D l2, S l2 → DnD [{ target := .collected D, args := #[] }] c Q .normal e ((D, .deferred (some [])) :: l2)) :
    WcF none [] n c (.rangeFunc gop #[t] assign body) Q e l := by
  intro w hv a ha hok
  refine wpIn_rangeFunc ?_
  intro fn hfn
  obtain ⟨rec, hrec⟩ : ∃ rec : Loop, rec = { state := .ready, pending := none, fn, tmps := a.tmps, params := #[t], assign, body, defers := w.heap.size } := ⟨_, rfl⟩
  have h1 := hv.alloc (.deferred (some []))
  have h2 := h1.alloc (.loop rec)
  have hs : ({ w with heap := w.heap.push (.deferred (some [])) } : World).heap.size = w.heap.size + 1 := by simp
  rw [hs] at h2
  refine ⟨w.heap.size + 1, [{ target := .collected w.heap.size, args := #[] }], ((w.alloc (.deferred (some []))).alloc (.loop { state := .ready, pending := none, fn, tmps := a.tmps, params := #[t], assign, body, defers := w.heap.size })), { target := .fn (.func fi) lb.toArray, args := #[.func (.yield (w.heap.size + 1)) #[] #[]] }, ((w.alloc (.deferred (some []))).alloc (.loop { state := .ready, pending := none, fn, tmps := a.tmps, params := #[t], assign, body, defers := w.heap.size })), fi,
    #[.func (.yield (w.heap.size + 1)) #[] #[]] ++ lb.toArray, ((w.alloc (.deferred (some []))).alloc (.loop { state := .ready, pending := none, fn, tmps := a.tmps, params := #[t], assign, body, defers := w.heap.size })), run_enterLoop_outer _ _ _ _ _, ?_, fun _ _ => trivial, ?_, fun h => by simp [FW, Fence.wide] at h, callsFW ?_⟩
  · have hg' : a.eval gop = _ := ha.ag.eval hg
    simp only [resolve, rangeCall, hg']
    simp [go_sem]
  · simp [invoke, go_sem, hf _ _]
  · rw [← hrec]
    have hit' := hit (w.heap.size + 1) w.heap.size fn a.tmps ⟨ha.size, rfl, ha.agree⟩
    rw [← hrec] at hit'
    have hc := hit' _ h2.toRv
    have e1 : (#[Value.func (.yield (w.heap.size + 1)) #[] #[]] ++ lb.toArray) = (Value.func (.yield (w.heap.size + 1)) #[] #[] :: lb).toArray := by simp
    rw [e1]
    refine hc.mono ?_
    rintro en w3 ⟨v, l', rfl, ⟨r, l2, rfl, hr1, hr2, hS⟩, hw3⟩
    have h3 : Hv c.R c.w0 c.l0 ((w.heap.size + 1, .loop r) :: (w.heap.size, .deferred (some [])) :: l2) w3 := by
      have := Hv.over (F := []) (by simpa using h2) (l' := (w.heap.size + 1, .loop r) :: (w.heap.size, .deferred (some [])) :: l2) (w' := w3) (by
        have : (fun b o => c.R b o ∨ (b, o) ∈ ([] : Bl)) = c.R := by funext b o; simp
        rw [this]; exact hw3)
      simpa using this
    have hend := run_endLoop (P := c.P) (h3.own _ _ (List.mem_cons_self ..)) (by rw [hr1]; simp)
    refine ⟨none, _, by rw [← hr2]; exact hend, ?_⟩
    have h4 := h3.obj (o' := .loop { r with state := .exhausted }) .h
    have h5 := h4.subC (l' := (w.heap.size, .deferred (some [])) :: l2) (fun a => by simp only [cnt_cons]; omega)
    exact h _ l2 hS _ h5 _ ⟨ha.size, by rw [ha.defers]; rfl, ha.agree⟩
theorem finM {P : Program} {n : Nat} {R : Rd} {w0 : World} {l0 l' : Bl} {fn : Func} {rs : List ResultVar} {v : Value} {D : Nat} {S : Value → Bl → Prop} (hr : fn.results = rs.toArray) (h : Rs e rs = some [v]) (p : ∀ a, cnt a l' ≤ cnt a l)
    (hk : S v l') : DnD [{ target := .collected D, args := #[] }] ⟨P, n, R, w0, l0⟩ (bodyPostM Fence.wide 5 P fn fun e w' => ∃ v l', e = .returned v ∧ S v l' ∧ Hv R w0 l0 l' w') .ret e ((D, .deferred (some [])) :: l) := by
  intro w hw a ha
  show LeavesInM Fence.wide 5 P fn a.tmps _ a.defers .returning w
  rw [ha.defers]
  refine ⟨by simp, .inl ⟨D, _, rfl, run_takeDeferred (hw.own _ _ (List.mem_cons_self ..)), ?_⟩⟩
  have h4 := (hw.obj (o' := .deferred none) .h).subC (l' := l') (fun a => by have := p a; simp only [cnt_cons]; omega)
  exact ⟨v, by rw [results_run ha.ag _ hr h]; rfl, v, l', rfl, hk, h4⟩
end
end Go.Wk
namespace Go.Wk
open Go
section
variable {ro : Option Nat} {ds : List Deferred} {nn : Nat} {c : Cx} {ops : Array Oper} {Q : Ps} {rest : List Oper} {e : Env} {l : Bl} {x y : Operand} {T T2 E ty ty2 : TypeId} {α : Type}
/-- 'out = append(out, x)', in a round. -/
theorem apOF {d1 d2 n m cap by' : Nat} {p : Option Addr} {xs : List α} {a : α} {M : Rd} {Rep : Rd → List Value → α → Prop} {bk : Bl} {zv yv : Value} {vs : List Value} {pos pos2 : String} {aft aft2 : Array Edge} (l2 : Bl) (hT : c.P.underlying T = some (.slice E)) (hi : Inf c.P E zv n by') (hzs : zv.cells.size = n) (k : RepK n Rep)
    (h : OSl E n Rep M (.slice p m cap) xs bk) (hr : Rep M vs a) (hlim : (m + 1) * by' ≤ 140737488355328) (hlim2 : m + 1 ≤ 1099511627776) (hn : n ≤ 16777216) (pl : ∀ a, cnt a l = cnt a (bk ++ l2))
    (hx : ∀ u, ev ((d1, u) :: e) x = some (.slice p m cap)) (hy : ev e y = some yv) (hyv : yv.cells = vs.toArray)
    (hk : ∀ v bk' u, OSl E n Rep M v (xs ++ [a]) bk' → WoF ro ds nn c ops Q rest ((d2, v) :: (d1, u) :: e) (bk' ++ l2)) :
    WoF ro ds nn c ops Q (⟨some d1, .buildSlice T 1 #[(0, y)], ty, pos, aft, none⟩ :: ⟨some d2, .call ⟨.builtin .append, #[x, .tmp d1], #[T, T]⟩, ty2, pos2, aft2, none⟩ :: rest) e l := by
  have hl := k.len _ _ _ hr
  have hn0 := k.pos
  obtain ⟨css, h1, h2⟩ := h
  have hfill : Fill (fun i => some (i * n, n)) [(0, yv)] ((Array.range (1 * n)).map (zv.cells[· % zv.cells.size]!)).toList vs := by
    have hu := OSl.at.UpM.any (cs := ((Array.range (1 * n)).map (zv.cells[· % zv.cells.size]!)).toList) (k := 0) (vs := vs) (by simp; omega)
    have e : ((Array.range (1 * n)).map (zv.cells[· % zv.cells.size]!)).toList.take 0 ++ vs ++ ((Array.range (1 * n)).map (zv.cells[· % zv.cells.size]!)).toList.drop (0 + vs.length) = vs := by
      rw [List.drop_of_length_le (by simp; omega)]; simp
    rw [e] at hu
    exact .c (by simp [hl]) (by omega) hyv hu .n
  refine eoF (by intro k hk; cases hk) (eBs (sz := n) hT hi.sz ⟨zv, hi.zr, (Array.toArray_toList).symm⟩ ⟨by omega, by omega⟩ (ps := [(0, y)]) (vs := [(0, yv)]) (by simp [evs, hy]) hfill) ?_
  rintro v l' ⟨b, rfl, rfl⟩
  refine eoF (by intro k hk; cases hk) (eAp (m := 1) (ys := vs) (yv := .slice (some ⟨b, 0, none⟩) 1 1) l2 hT hi hn0 hzs (hx _) (by simp [putE, ev, gt_cons]) h1 (l2 := (b, .cells vs.toArray E (0, 0)) :: l2) (fun a => by have := pl a; simp only [cnt_cons, cnt_append] at this ⊢; omega) (fun a => by simp only [cnt_cons]; omega)
    (fun w hr' => SlV.src (M := fun b' o => (b', o) ∈ [(b, Obj.cells vs.toArray E (0, 0))]) ⟨_, 1, _, rfl, by omega, .inr ⟨b, 0, vs, E, (0, 0), rfl, by simp, fun j _ => by simp⟩⟩ (fun b' o' hb => .inr (by simp at hb; simp [hb])) hr' hT (k.one _ _ _ hr)) hlim hlim2) ?_
  rintro v l' ⟨bk', ho, rfl⟩
  exact hk v bk' _ (OSl.app h2 (.cons hr .nil) (by simpa using ho))
end
end Go.Wk
