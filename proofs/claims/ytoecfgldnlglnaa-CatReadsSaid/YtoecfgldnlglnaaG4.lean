import Derived.Deep.AppendSrc
import Derived.Sort.Walk0
import Derived.Test.YtoecfgldnlglnaaG3
set_option linter.unusedVariables false
set_option linter.unusedSimpArgs false
set_option linter.unusedSectionVars false
set_option maxRecDepth 20000
namespace Go.Wk
open Go
theorem sLt_eq (s t : ByteArray) : sLt s t = decide (s.data.toList < t.data.toList) := by unfold sLt; rw [Go.Proofs.bytesLess_eq]
theorem sLt_irrefl (s : ByteArray) : sLt s s = false := by rw [sLt_eq]; simp [List.lt_irrefl]
theorem sLt_trans {s t u : ByteArray} (h : sLt s t = true) (h' : sLt t u = true) : sLt s u = true := by
  rw [sLt_eq] at *; simp at *; exact List.lt_trans h h'
theorem sLt_tri {s t : ByteArray} (h : sLt s t = false) (hn : s ≠ t) : sLt t s = true := by
  cases h' : sLt t s
  · rw [sLt_eq] at h h'
    simp only [decide_eq_false_iff_not] at h h'
    have := List.le_antisymm (List.not_lt.1 h) (List.not_lt.1 h')
    exact absurd (ByteArray.ext (Array.toList_inj.1 this.symm)) hn
  · rfl
theorem sLt_asymm {s t : ByteArray} (h : sLt s t = true) : sLt t s = false := by
  cases h' : sLt t s
  · rfl
  · have := sLt_trans h h'; rw [sLt_irrefl] at this; cases this
theorem sLt_ne {s t : ByteArray} (h : sLt s t = true) : s ≠ t := fun e => by subst e; rw [sLt_irrefl] at h; cases h
/-- A slice that may be read: its elements. -/
def SlV (sz : Nat) (R : Rd) (v : Value) (xs : List Value) : Prop :=
  ∃ (p : Option Addr) (n cap : Nat), v = .slice p n cap ∧ xs.length = n * sz ∧ (n = 0 ∨ ∃ (b o : Nat) (cs : List Value) (E : TypeId) (fz : Nat × Nat), p = some ⟨b, o, none⟩ ∧ R b (.cells (List.toArray cs) E fz) ∧ ∀ j, j < n * sz → cs[o + j]? = xs[j]?)
theorem SlV.len {sz R v xs} (h : SlV sz R v xs) : ∃ p n cap, v = .slice p n cap ∧ xs.length = n * sz :=
  let ⟨p, n, cap, e, h1, _⟩ := h; ⟨p, n, cap, e, h1⟩
theorem SlV.mono {sz R R' v xs} (hR : ∀ b o, R b o → R' b o) (h : SlV sz R v xs) : SlV sz R' v xs := by
  obtain ⟨p, n, cap, e, h1, h2⟩ := h
  refine ⟨p, n, cap, e, h1, h2.imp id ?_⟩
  rintro ⟨b, o, cs, E, fz, h3, h4, h5⟩
  exact ⟨b, o, cs, E, fz, h3, hR _ _ h4, h5⟩
theorem SlI.toV {E sz v xs bk} {R : Rd} (h : SlI E sz v xs bk) (hb : ∀ x ∈ bk, R x.1 x.2) : SlV sz R v xs := by
  cases h with
  | emp _ => exact ⟨_, 0, _, rfl, by simp, .inl rfl⟩
  | @blk b pre _ sp cap n o h1 h2 h3 =>
    refine ⟨_, n, cap, rfl, h1, .inr ⟨b, o, _, E, (0, 0), rfl, hb _ (List.mem_singleton.2 rfl), fun j hj => ?_⟩⟩
    rw [List.getElem?_append_left (by simp; omega), List.getElem?_append_right (by omega), h2, Nat.add_sub_cancel_left]
theorem SlV.at1 {R n cap p xs} (h : SlV 1 R (.slice p n cap) xs) {i : Nat} {v : Value} (hx : xs[i]? = some v) : ∃ b o cs E fz, p = some ⟨b, o, none⟩ ∧ i < n ∧ R b (.cells (List.toArray cs) E fz) ∧ cs[o + (i : Int).toNat * 1]? = some v := by
  obtain ⟨p, n, cap, e, h1, h2⟩ := h
  cases e
  have hl : i < xs.length := (List.getElem?_eq_some_iff.1 hx).1
  rcases h2 with rfl | ⟨b, o, cs, E, fz, h3, h4, h5⟩
  · omega
  · refine ⟨b, o, cs, E, fz, h3, by omega, h4, ?_⟩
    rw [Int.toNat_natCast, Nat.mul_one, h5 i (by omega), hx]
theorem SlI.at1 {E n cap p xs bk} (h : SlI E 1 (.slice p n cap) xs bk) {i : Nat} {v : Value} (hx : xs[i]? = some v) : ∃ b o cs, p = some ⟨b, o, none⟩ ∧ i < n ∧ bk = [(b, .cells (List.toArray cs) E (0, 0))] ∧ cs[o + (i : Int).toNat * 1]? = some v := by
  have hl : i < xs.length := (List.getElem?_eq_some_iff.1 hx).1
  cases h with
  | emp _ => simp at hx
  | @blk b pre _ sp cap n o h1 h2 h3 =>
    refine ⟨b, o, _, rfl, by omega, rfl, ?_⟩
    rw [Int.toNat_natCast, Nat.mul_one, List.getElem?_append_left (by simp; omega), List.getElem?_append_right (by omega), h2, Nat.add_sub_cancel_left, hx]
section
variable {c : Cx} {e : Env} {l : Bl} {x : Operand} {ty : TypeId} {d : Option Tmp} {pos : String} {aft : Array Edge} {g : Option (Nat × Bool)} {α : Type} [DecidableEq α] {kf : α → Value} {kv : Kv α} {t m : Nat}
theorem find_born {kv : Kv α} (h : (kv.map (·.2.2)).Nodup) {p : α × Value × Nat} (hp : p ∈ kv) : (kv.map fun p => (⟨kf p.1, p.2.1, p.2.2⟩ : MapEntry)).find? (fun e => e.born == p.2.2) = some ⟨kf p.1, p.2.1, p.2.2⟩ := by
  induction kv with
  | nil => cases hp
  | cons q r ih =>
    simp only [List.map_cons, List.nodup_cons] at h
    rcases List.mem_cons.1 hp with rfl | hp'
    · simp
    · have hne : q.2.2 ≠ p.2.2 := fun e => h.1 (by rw [e]; exact List.mem_map.2 ⟨p, hp', rfl⟩)
      rw [List.map_cons, List.find?_cons_of_neg (by simpa using hne)]
      exact ih h.2 hp'
/-- The pair that an iterator over a map stands at. -/
theorem ent {it since : Nat} {seen : Array Nat} {p : α × Value × Nat} (hk : KvOk kv t) (hp : p ∈ kv) (hx : ev e x = some (.pointer (some ⟨it, 0, none⟩))) (hm : Has c.R l m (.map (ents kf kv) t)) (hi : Has c.R l it (.mapIter (some m) since (seen.push p.2.2) t)) :
    Sp c l ⟨d, .entry x, ty, pos, aft, g⟩ e (.tuple #[kf p.1, p.2.1]) := fun w hv a ha => by
  have h1 := hv.get hm
  have h2 := hv.get hi
  have h3 : (ents kf kv).find? (fun e => e.born == p.2.2) = some ⟨kf p.1, p.2.1, p.2.2⟩ := by
    unfold ents
    rw [List.find?_toArray]
    exact find_born hk.born hp
  have h4 : (Instr.entry (.pointer (some ⟨it, 0, none⟩))).run c.P w = .ok (.tuple #[kf p.1, p.2.1]) w := by
    unfold Instr.entry
    simp only [Sem.run_bind, getObj, Sem.run, h2, h1, Result.andThen_ok, Array.back?_push, bne_self_eq_false, Bool.false_eq_true, if_false, h3, pure]
  unfold execOp
  simp only [ha.eval hx, Sem.run_bind, h4, Result.andThen_ok, pure, Sem.run]
end
theorem countP_lt {α : Type} {P Q : α → Bool} {l : List α} (hsub : ∀ x ∈ l, Q x = true → P x = true) {p : α} (hp : p ∈ l) (h1 : P p = true) (h2 : Q p = false) : l.countP Q < l.countP P := by
  induction l with
  | nil => cases hp
  | cons y r ih =>
    have hle : r.countP Q ≤ r.countP P := List.countP_mono_left fun x hx h => hsub x (List.mem_cons_of_mem _ hx) h
    rw [List.countP_cons, List.countP_cons]
    rcases List.mem_cons.1 hp with rfl | hp'
    · simp [h1, h2]; omega
    · have := ih (fun x hx => hsub x (List.mem_cons_of_mem _ hx)) hp'
      by_cases hq : Q y = true
      · have := hsub y (List.mem_cons_self ..) hq; simp [hq, this]; omega
      · simp [hq]; omega
theorem In.cnt {l b o o' l'} (h : In l b o o' l') (a : Nat × Obj) : cnt a l' + isB (b, o) a = cnt a l + isB (b, o') a := by
  obtain ⟨A, B, rfl, rfl⟩ := h.eq
  simp only [cnt_append, cnt_cons]; omega
section
variable {α : Type}
theorem fin_seen {kv : Kv α} {seen : Array Nat} {p : α × Value × Nat} (hp : p ∈ kv) (hn : p.2.2 ∉ seen) : (kv.countP fun q => decide (q.2.2 ∉ seen.push p.2.2)) < kv.countP fun q => decide (q.2.2 ∉ seen) :=
  countP_lt (fun x _ h => by simp only [decide_eq_true_eq, Array.mem_push, not_or] at h ⊢; exact h.1) hp (by simpa using hn) (by simp)
theorem born_inj {kv : Kv α} (h : (kv.map (·.2.2)).Nodup) {p q : α × Value × Nat} (hp : p ∈ kv) (hq : q ∈ kv) (e : p.2.2 = q.2.2) : p = q := by
  induction kv with
  | nil => cases hp
  | cons x r ih =>
    simp only [List.map_cons, List.nodup_cons] at h
    rcases List.mem_cons.1 hp with rfl | hp' <;> rcases List.mem_cons.1 hq with rfl | hq'
    · rfl
    · exact absurd (by rw [e]; exact List.mem_map.2 ⟨q, hq', rfl⟩) h.1
    · exact absurd (by rw [← e]; exact List.mem_map.2 ⟨p, hp', rfl⟩) h.1
    · exact ih h.2 hp' hq'
end
theorem flat_at {sz : Nat} : ∀ {css : List (List Value)} (h : ∀ c ∈ css, c.length = sz) {i j : Nat} {vs : List Value}, css[i]? = some vs → j < sz → css.flatten[i * sz + j]? = vs[j]?
  | [], _, i, j, vs, hi, _ => by simp at hi
  | c :: css, h, 0, j, vs, hi, hj => by
    simp only [List.getElem?_cons_zero, Option.some.injEq] at hi
    subst hi
    have := h c (List.mem_cons_self ..)
    rw [Nat.zero_mul, Nat.zero_add, List.flatten_cons, List.getElem?_append_left (by omega)]
  | c :: css, h, i + 1, j, vs, hi, hj => by
    have hc := h c (List.mem_cons_self ..)
    have := flat_at (css := css) (fun c hc => h c (List.mem_cons_of_mem _ hc)) (i := i) (j := j) (vs := vs) (by simpa using hi) hj
    rw [List.flatten_cons, List.getElem?_append_right (by rw [hc, Nat.add_mul]; omega), ← this, hc]
    congr 1
    rw [Nat.add_mul]; omega
theorem SlV.atK {sz n cap : Nat} {R : Rd} {p : Option Addr} {css : List (List Value)} (h : SlV sz R (.slice p n cap) css.flatten) (hc : ∀ c ∈ css, c.length = sz) (h0 : 0 < sz) {i : Nat} {vs : List Value} (hi : css[i]? = some vs) :
    ∃ b o cs E fz, p = some ⟨b, o, none⟩ ∧ i < n ∧ R b (.cells (List.toArray cs) E fz) ∧ (∀ j, j < sz → cs[o + (i : Int).toNat * sz + j]? = vs[j]?) ∧ Tk (o + (i : Int).toNat * sz) sz cs vs := by
  have hil : i < css.length := (List.getElem?_eq_some_iff.1 hi).1
  have hfl : css.flatten.length = css.length * sz := by
    clear h hi hil
    induction css with
    | nil => simp
    | cons c css ih => rw [List.flatten_cons, List.length_append, hc c (List.mem_cons_self ..), ih fun c h => hc c (List.mem_cons_of_mem _ h), List.length_cons, Nat.add_mul]; omega
  have hvs : vs.length = sz := hc vs (List.mem_of_getElem? hi)
  obtain ⟨p, n, cap, e, h1, h2⟩ := h
  cases e
  have hn : css.length = n := by
    rw [hfl] at h1
    exact Nat.eq_of_mul_eq_mul_right h0 h1
  rcases h2 with rfl | ⟨b, o, cs, E, fz, h3, h4, h5⟩
  · omega
  · have hle : i * sz + sz ≤ n * sz := by rw [← hn, ← Nat.succ_mul]; exact Nat.mul_le_mul_right _ hil
    have hj : ∀ j, j < sz → cs[o + (i : Int).toNat * sz + j]? = vs[j]? := fun j hj => by
      rw [Int.toNat_natCast, ← flat_at hc hi hj, Nat.add_assoc, h5 _ (by omega)]
    refine ⟨b, o, cs, E, fz, h3, by omega, h4, hj, ?_⟩
    have hlast : o + (i * sz + (sz - 1)) < cs.length := by
      have := hj (sz - 1) (by omega)
      rw [List.getElem?_eq_getElem (show sz - 1 < vs.length by omega)] at this
      have := (List.getElem?_eq_some_iff.1 this).1
      rw [Int.toNat_natCast] at this; omega
    have hT := Tk.any (off := o + (i : Int).toNat * sz) (n := sz) (cs := cs) (by rw [Int.toNat_natCast]; omega)
    have e : (cs.drop (o + (i : Int).toNat * sz)).take sz = vs := by
      apply List.ext_getElem?
      intro j
      by_cases hjs : j < sz
      · rw [List.getElem?_take_of_lt hjs, List.getElem?_drop, hj j hjs]
      · rw [List.getElem?_eq_none (by rw [List.length_take]; omega), List.getElem?_eq_none (by omega)]
    rwa [e] at hT
theorem Tk.two {off : Nat} {cs : List Value} {u v : Value} (h1 : cs[off]? = some u) (h2 : cs[off + 1]? = some v) : Tk off 2 cs [u, v] := by
  have hl : off + 1 < cs.length := (List.getElem?_eq_some_iff.1 h2).1
  have hT := Tk.any (off := off) (n := 2) (cs := cs) (by omega)
  have e : (cs.drop off).take 2 = [u, v] := by
    apply List.ext_getElem?
    intro j
    match j with
    | 0 => simpa using h1
    | 1 => simpa using h2
    | j + 2 => rw [List.getElem?_eq_none (by rw [List.length_take]; omega)]; rfl
  rwa [e] at hT
section
variable {c : Cx} {ops : Array Oper} {Q : Ps} {rest : List Oper} {e : Env} {l : Bl} {ty : TypeId} {pos : String} {aft : Array Edge} {d : Nat} {xs : List Operand} {ts : Array TypeId} {vs : List Value} {f : FuncId}
/-- A call that changes nothing. -/
theorem clR {u : Value} (hf : Fb c.P f) (hx : evl e xs = some vs) (l₁ F : Bl) (p : ∀ a, cnt a l = cnt a (l₁ ++ F)) (ht : Tri c.P f vs (fun b o => c.R b o ∨ (b, o) ∈ F) l₁ fun v l' => v = u ∧ l' = l₁)
    (h : Wo c ops Q rest ((d, u) :: e) l) : Wo c ops Q (⟨some d, .call ⟨.value (.func f), xs.toArray, ts⟩, ty, pos, aft, none⟩ :: rest) e l :=
  clP hf hx (permC p) ht fun v l' hS => by
    obtain ⟨h1, h2⟩ := hS
    rw [h1, h2]
    exact oPerm (permC fun a => (p a).symm) h
end
/-- A function that hands back a new slice, and leaves what there was. -/
theorem Tri.row {P : Program} {f : FuncId} {args : List Value} {R : Rd} {l : Bl} {E sz n : Nat} {xs : List Value} (h : ∀ w, Rv R l w → Calls P f args.toArray w fun e w' => ∃ v, e = .returned v ∧ w'.ownsRow w.heap.size E sz v n xs ∧ RowKit.Below w.heap.size w w') :
    Tri P f args R l fun v l' => ∃ bk, SlO E sz v xs bk ∧ l' = bk ++ l :=
  fun w hv => (h w hv).mono fun _ w' ⟨v, he, ⟨hl, hr⟩, hb⟩ => by
    have h0 := Hv.below hv hb
    rcases hr with ⟨rfl, rfl⟩ | ⟨g, cap, cur, rfl, hg, hh, hn, _, hc, ht⟩
    · obtain rfl : xs = [] := List.eq_nil_of_length_eq_zero (by rw [hl, Nat.zero_mul])
      exact ⟨_, l, he, ⟨[], .nil, rfl⟩, h0⟩
    · have hcur : cur = (xs ++ cur.toList.drop (n * sz)).toArray := by
        rw [← ht, List.take_append_drop]
      have hsl : SlO E sz (.slice (some ⟨g, 0, none⟩) n cap) xs [(g, .cells (xs ++ cur.toList.drop (n * sz)).toArray E (0, 0))] := .blk hl (by rw [← ht, List.take_append_drop, Array.length_toList, hc]) hn
      rw [hcur] at hh
      refine ⟨_, _, he, ⟨_, hsl, rfl⟩, ?_⟩
      have hng : g ∉ keys l := fun hk => absurd (hv.lt hk) (by omega)
      have hnr : ∀ b o, R b o → b ≠ g := fun b o hr he => absurd (lt_of_get (hv.rd b o hr)) (by omega)
      exact { nd := List.nodup_cons.2 ⟨hng, h0.nd⟩, own := fun b o hk => by
                rcases List.mem_cons.1 hk with hk | hk
                · obtain ⟨rfl, rfl⟩ := Prod.mk.inj hk; exact hh
                · exact h0.own b o hk
              rd := h0.rd, dis := fun b o hr hk => by
                rcases List.mem_cons.1 hk with hk | hk
                · exact hnr b o hr hk
                · exact h0.dis b o hr hk
              new := fun b hk => by
                rcases List.mem_cons.1 hk with hk | hk
                · exact .inr (by rw [hk]; exact hg)
                · exact h0.new b hk
              ext := h0.ext, size := h0.size, os := h0.os, tape := h0.tape, output := h0.output }
theorem addr_add (b o j : Nat) : (⟨b, o, none⟩ : Addr).add j = ⟨b, o + j, none⟩ := by
  unfold Addr.add
  split
  · rename_i h; rw [h]; rfl
  · rfl
end Go.Wk
namespace Go.Wk
open Go

/-! # Elements that stand for others -/
inductive Fa2 {α β : Type} (r : α → β → Prop) : List α → List β → Prop
  | nil : Fa2 r [] []
  | cons {a b la lb} : r a b → Fa2 r la lb → Fa2 r (a :: la) (b :: lb)
section
variable {α β : Type} {r : α → β → Prop} {la la' : List α} {lb lb' : List β} {a : α} {b : β}
theorem Fa2.len (h : Fa2 r la lb) : la.length = lb.length := by induction h <;> simp_all
theorem Fa2.at (h : Fa2 r la lb) {i : Nat} (hb : lb[i]? = some b) : ∃ a, la[i]? = some a ∧ r a b := by
  induction h generalizing i with
  | nil => simp at hb
  | cons h1 h2 ih => cases i with
    | zero => simp at hb; subst hb; exact ⟨_, rfl, h1⟩
    | succ i => simpa using ih (by simpa using hb)
theorem Fa2.append (h : Fa2 r la lb) (h' : Fa2 r la' lb') : Fa2 r (la ++ la') (lb ++ lb') := by
  induction h with
  | nil => exact h'
  | cons h1 h2 ih => exact .cons h1 ih
theorem Fa2.snoc (h : Fa2 r la lb) (h' : r a b) : Fa2 r (la ++ [a]) (lb ++ [b]) := h.append (.cons h' .nil)
theorem Fa2.mono {r' : α → β → Prop} (hr : ∀ a b, r a b → r' a b) (h : Fa2 r la lb) : Fa2 r' la lb := by
  induction h with
  | nil => exact .nil
  | cons h1 h2 ih => exact .cons (hr _ _ h1) ih
theorem Fa2.drop (h : Fa2 r la lb) (k : Nat) : Fa2 r (la.drop k) (lb.drop k) := by
  induction h generalizing k with
  | nil => simpa using .nil
  | cons h1 h2 ih => cases k with
    | zero => exact .cons h1 h2
    | succ k => simpa using ih k
theorem Fa2.take (h : Fa2 r la lb) (k : Nat) : Fa2 r (la.take k) (lb.take k) := by
  induction h generalizing k with
  | nil => simpa using .nil
  | cons h1 h2 ih => cases k with
    | zero => exact .nil
    | succ k => simpa using .cons h1 (ih k)
theorem Fa2.set (h : Fa2 r la lb) (k : Nat) (h' : r a b) : Fa2 r (la.set k a) (lb.set k b) := by
  induction h generalizing k with
  | nil => exact .nil
  | cons h1 h2 ih => cases k with
    | zero => exact .cons h' h2
    | succ k => exact .cons h1 (ih k)
theorem Fa2.left (h : Fa2 r la lb) : ∀ a ∈ la, ∃ b ∈ lb, r a b := by
  induction h with
  | nil => simp
  | cons h1 h2 ih =>
    intro a ha
    rcases List.mem_cons.1 ha with rfl | ha
    · exact ⟨_, List.mem_cons_self .., h1⟩
    · obtain ⟨b, hb, hr⟩ := ih a ha; exact ⟨b, List.mem_cons_of_mem _ hb, hr⟩
theorem Fa2.map {f : β → α} : ∀ (lb : List β), (∀ b, r (f b) b) → Fa2 r (lb.map f) lb
  | [], _ => .nil
  | b :: lb, h => .cons (h b) (Fa2.map lb h)
end

/-! # Slices of structs -/
/-- How an element's cells stand for it: n cells, each one value, and what they look at stays la memory grows. -/
structure RepK {α : Type} (n : Nat) (Rep : Rd → List Value → α → Prop) : Prop where
  pos : 0 < n
  len : ∀ M cs x, Rep M cs x → cs.length = n
  one : ∀ M cs x, Rep M cs x → cs.all one = true
  mono : ∀ M M' cs x, (∀ b o, M b o → M' b o) → Rep M cs x → Rep M' cs x
/-- A slice that may be read, of elements. -/
def RSl {α : Type} (n : Nat) (Rep : Rd → List Value → α → Prop) (M : Rd) (v : Value) (xs : List α) : Prop := ∃ css, SlV n M v css.flatten ∧ Fa2 (Rep M) css xs
/-- A slice that is one's own, of elements. -/
def OSl {α : Type} (E n : Nat) (Rep : Rd → List Value → α → Prop) (M : Rd) (v : Value) (xs : List α) (bk : Bl) : Prop := ∃ css, SlO E n v css.flatten bk ∧ Fa2 (Rep M) css xs
theorem flat_len {n : Nat} {css : List (List Value)} (h : ∀ c ∈ css, c.length = n) : css.flatten.length = css.length * n := by
  induction css with
  | nil => simp
  | cons c css ih => rw [List.flatten_cons, List.length_append, h c (List.mem_cons_self ..), ih fun c hc => h c (List.mem_cons_of_mem _ hc), List.length_cons, Nat.add_mul]; omega
section
variable {α : Type} {E n : Nat} {Rep : Rd → List Value → α → Prop} {M M' : Rd} {v : Value} {xs ys : List α} {x : α} {bk : Bl}
theorem RepK.lens (k : RepK n Rep) {css : List (List Value)} (h : Fa2 (Rep M) css xs) : ∀ c ∈ css, c.length = n := fun c hc => by
  obtain ⟨x, _, hr⟩ := h.left c hc; exact k.len _ _ _ hr
theorem RepK.flat (k : RepK n Rep) {css : List (List Value)} (h : Fa2 (Rep M) css xs) : css.flatten.length = xs.length * n := by
  rw [flat_len (k.lens h), h.len]
theorem RepK.alls (k : RepK n Rep) {css : List (List Value)} (h : Fa2 (Rep M) css xs) : css.flatten.all Go.Wk.one = true := by
  rw [List.all_eq_true]
  intro u hu
  obtain ⟨c, hc, hu⟩ := List.mem_flatten.1 hu
  obtain ⟨x, _, hr⟩ := h.left c hc
  exact List.all_eq_true.1 (k.one _ _ _ hr) u hu
theorem RSl.mono (k : RepK n Rep) (hM : ∀ b o, M b o → M' b o) (h : RSl n Rep M v xs) : RSl n Rep M' v xs :=
  let ⟨css, h1, h2⟩ := h; ⟨css, h1.mono hM, h2.mono fun _ _ => k.mono _ _ _ _ hM⟩
theorem OSl.mono (k : RepK n Rep) (hM : ∀ b o, M b o → M' b o) (h : OSl E n Rep M v xs bk) : OSl E n Rep M' v xs bk :=
  let ⟨css, h1, h2⟩ := h; ⟨css, h1, h2.mono fun _ _ => k.mono _ _ _ _ hM⟩
theorem OSl.toR (k : RepK n Rep) (hM : ∀ b o, M b o → M' b o) (hb : ∀ x ∈ bk, M' x.1 x.2) (h : OSl E n Rep M v xs bk) : RSl n Rep M' v xs :=
  let ⟨css, h1, h2⟩ := h; ⟨css, h1.toI.toV hb, h2.mono fun _ _ => k.mono _ _ _ _ hM⟩
theorem RSl.val (k : RepK n Rep) (h : RSl n Rep M v xs) : ∃ p cap, v = .slice p xs.length cap := by
  obtain ⟨css, h1, h2⟩ := h
  obtain ⟨p, m, cap, rfl, hl⟩ := h1.len
  rw [k.flat h2] at hl
  exact ⟨p, cap, by rw [Nat.eq_of_mul_eq_mul_right k.pos hl]⟩
theorem OSl.val (k : RepK n Rep) (h : OSl E n Rep M v xs bk) : ∃ p cap, v = .slice p xs.length cap := by
  obtain ⟨css, h1, h2⟩ := h
  obtain ⟨p, m, cap, rfl, hl⟩ := h1.toI.len
  rw [k.flat h2] at hl
  exact ⟨p, cap, by rw [Nat.eq_of_mul_eq_mul_right k.pos hl]⟩
theorem OSl.nil : OSl E n Rep M (.slice none 0 0) ([] : List α) [] := ⟨[], .nil, .nil⟩
theorem RSl.nil {p : Option Addr} {cap : Nat} : RSl n Rep M (.slice p 0 cap) ([] : List α) := ⟨[], ⟨p, 0, cap, rfl, by simp, .inl rfl⟩, .nil⟩
theorem RSl.at (k : RepK n Rep) {p : Option Addr} {m cap : Nat} (h : RSl n Rep M (.slice p m cap) xs) {i : Nat} (hx : xs[i]? = some x) :
    ∃ b o cs E fz vs, p = some ⟨b, o, none⟩ ∧ i < m ∧ M b (.cells (List.toArray cs) E fz) ∧ Rep M vs x ∧ (∀ j, j < n → cs[o + (i : Int).toNat * n + j]? = vs[j]?) ∧ Tk (o + (i : Int).toNat * n) n cs vs := by
  obtain ⟨css, h1, h2⟩ := h
  obtain ⟨vs, hv, hr⟩ := h2.at hx
  obtain ⟨b, o, cs, E, fz, h3, h4, h5, h6, h7⟩ := h1.atK (k.lens h2) k.pos hv
  exact ⟨b, o, cs, E, fz, vs, h3, h4, h5, hr, h6, h7⟩
theorem set_flat {n : Nat} : ∀ {css : List (List Value)} (h : ∀ c ∈ css, c.length = n) {i : Nat} {vs vs' : List Value}, css[i]? = some vs → vs'.length = n →
    (css.set i vs').flatten = css.flatten.take (i * n) ++ vs' ++ css.flatten.drop (i * n + n)
  | [], _, i, vs, vs', hi, _ => by simp at hi
  | c :: css, h, 0, vs, vs', hi, hl => by
    have := h c (List.mem_cons_self ..)
    simp [List.drop_append, this]
  | c :: css, h, i + 1, vs, vs', hi, hl => by
    have hc := h c (List.mem_cons_self ..)
    have ih := set_flat (css := css) (fun c hc => h c (List.mem_cons_of_mem _ hc)) (i := i) (vs := vs) (vs' := vs') (by simpa using hi) hl
    rw [List.set_cons_succ, List.flatten_cons, ih, List.flatten_cons, List.take_append, List.drop_append, List.take_of_length_le (l := c) (by rw [hc, Nat.add_mul]; omega), List.drop_of_length_le (l := c) (by rw [hc, Nat.add_mul]; omega), hc]
    rw [show (i + 1) * n - n = i * n by rw [Nat.add_mul]; omega, show (i + 1) * n + n - n = i * n + n by rw [Nat.add_mul]; omega]
    simp
/-- One's own slice's element: it may be read, and written, cell by cell, or whole. -/
theorem OSl.at (k : RepK n Rep) {p : Option Addr} {m cap : Nat} (h : OSl E n Rep M (.slice p m cap) xs bk) {i : Nat} (hx : xs[i]? = some x) :
    ∃ b cs vs, p = some ⟨b, 0, none⟩ ∧ i < m ∧ bk = [(b, .cells (List.toArray cs) E (0, 0))] ∧ Rep M vs x ∧ (∀ j, j < n → cs[0 + (i : Int).toNat * n + j]? = vs[j]?) ∧ Tk (0 + (i : Int).toNat * n) n cs vs ∧
      (∀ j u x', j < n → Rep M (vs.set j u) x' → UpC cs (0 + (i : Int).toNat * n + j) u (cs.set (0 + (i : Int).toNat * n + j) u) ∧ OSl E n Rep M (.slice p m cap) (xs.set i x') [(b, .cells (List.toArray (cs.set (0 + (i : Int).toNat * n + j) u)) E (0, 0))]) ∧
      (∀ vs' x', Rep M vs' x' → ∃ cs', UpM cs (0 + (i : Int).toNat * n) vs' cs' ∧ OSl E n Rep M (.slice p m cap) (xs.set i x') [(b, .cells (List.toArray cs') E (0, 0))]) := by
  obtain ⟨css, h1, h2⟩ := h
  obtain ⟨vs, hv, hr⟩ := h2.at hx
  have hl := k.lens h2
  have hvs := k.len _ _ _ hr
  have hi : i < css.length := (List.getElem?_eq_some_iff.1 hv).1
  have hfl := flat_len hl
  have hn := k.pos
  obtain ⟨fl, hfe⟩ : ∃ fl, css.flatten = fl := ⟨_, rfl⟩
  rw [hfe] at h1
  cases h1 with
  | nil =>
    rw [hfe] at hfl
    have := Nat.mul_pos (show 0 < css.length by omega) hn
    simp at hfl
    omega
  | @blk b _ sp cap m e1 e2 e3 =>
  subst hfe
  have him : i < m := by
    rw [hfl] at e1
    rw [← Nat.eq_of_mul_eq_mul_right hn e1]; exact hi
  have hle : i * n + n ≤ css.flatten.length := by rw [hfl, ← Nat.succ_mul]; exact Nat.mul_le_mul_right _ hi
  have hj : ∀ j, j < n → (css.flatten ++ sp)[0 + (i : Int).toNat * n + j]? = vs[j]? := fun j hj => by
    rw [Nat.zero_add, Int.toNat_natCast, List.getElem?_append_left (by omega), flat_at hl hv hj]
  have hT : Tk (0 + (i : Int).toNat * n) n (css.flatten ++ sp) vs := by
    have hT := Tk.any (off := 0 + (i : Int).toNat * n) (n := n) (cs := css.flatten ++ sp) (by rw [Int.toNat_natCast, List.length_append]; omega)
    have e : ((css.flatten ++ sp).drop (0 + (i : Int).toNat * n)).take n = vs := by
      apply List.ext_getElem?
      intro j
      by_cases hjs : j < n
      · rw [List.getElem?_take_of_lt hjs, List.getElem?_drop, hj j hjs]
      · rw [List.getElem?_eq_none (by rw [List.length_take]; omega), List.getElem?_eq_none (by omega)]
    rwa [e] at hT
  have hgen : ∀ vs' x', Rep M vs' x' → OSl E n Rep M (.slice (some ⟨b, 0, none⟩) m cap) (xs.set i x') [(b, .cells (List.toArray (css.flatten.take (i * n) ++ vs' ++ css.flatten.drop (i * n + n) ++ sp)) E (0, 0))] := fun vs' x' hr' => by
    have hvs' := k.len _ _ _ hr'
    have hsf := set_flat hl hv hvs'
    refine ⟨css.set i vs', ?_, h2.set i hr'⟩
    rw [hsf]
    refine .blk ?_ ?_ e3
    · rw [← e1]; simp only [List.length_append, List.length_take, List.length_drop]; omega
    · rw [← e2]; simp only [List.length_append, List.length_take, List.length_drop]; omega
  refine ⟨b, _, vs, rfl, him, rfl, hr, hj, hT, fun j u x' hjn hr' => ⟨UpC.any (by rw [Int.toNat_natCast, List.length_append]; omega), ?_⟩, fun vs' x' hr' => ?_⟩
  · have := hgen _ _ hr'
    have e : (css.flatten ++ sp).set (0 + (i : Int).toNat * n + j) u = css.flatten.take (i * n) ++ vs.set j u ++ css.flatten.drop (i * n + n) ++ sp := by
      rw [Nat.zero_add, Int.toNat_natCast, List.set_append_left _ _ (by omega)]
      congr 1
      apply List.ext_getElem?
      intro q
      have hg := fun q (hq : q < n) => flat_at hl hv hq
      rw [List.getElem?_set]
      by_cases h1 : i * n + j = q
      · subst h1
        rw [if_pos rfl, if_pos (by omega), List.append_assoc, List.getElem?_append_right (by simp only [List.length_append, List.length_take, List.length_drop, List.length_set]; omega), List.getElem?_append_left (by simp only [List.length_append, List.length_take, List.length_drop, List.length_set]; omega)]
        simp only [List.length_take]
        rw [show i * n + j - min (i * n) css.flatten.length = j by omega, List.getElem?_set_self (by omega)]
      · rw [if_neg h1]
        by_cases h2 : q < i * n
        · rw [List.append_assoc, List.getElem?_append_left (by simp only [List.length_append, List.length_take, List.length_drop, List.length_set]; omega), List.getElem?_take_of_lt h2]
        · by_cases h3 : q < i * n + n
          · rw [List.append_assoc, List.getElem?_append_right (by simp only [List.length_append, List.length_take, List.length_drop, List.length_set]; omega), List.getElem?_append_left (by simp only [List.length_append, List.length_take, List.length_drop, List.length_set]; omega)]
            simp only [List.length_take]
            rw [show q - min (i * n) css.flatten.length = q - i * n by omega, List.getElem?_set_ne (by omega), ← hg (q - i * n) (by omega)]
            congr 1; omega
          · rw [List.getElem?_append_right (by simp only [List.length_append, List.length_take, List.length_drop, List.length_set]; omega), List.getElem?_drop]
            simp only [List.length_append, List.length_take, List.length_set]
            congr 1; omega
    rw [e]; exact this
  · have hvs' := k.len _ _ _ hr'
    refine ⟨_, ?_, hgen vs' x' hr'⟩
    have := UpM.any (cs := css.flatten ++ sp) (k := 0 + (i : Int).toNat * n) (vs := vs') (by rw [Int.toNat_natCast, List.length_append]; omega)
    have e : (css.flatten ++ sp).take (0 + (i : Int).toNat * n) ++ vs' ++ (css.flatten ++ sp).drop (0 + (i : Int).toNat * n + vs'.length) = css.flatten.take (i * n) ++ vs' ++ css.flatten.drop (i * n + n) ++ sp := by
      rw [Nat.zero_add, Int.toNat_natCast, hvs', List.take_append_of_le_length (by omega), List.drop_append_of_le_length (by omega)]
      simp
    rwa [e] at this
where
  UpM.any {cs : List Value} {k : Nat} {vs : List Value} (h : k + vs.length ≤ cs.length) : UpM cs k vs (cs.take k ++ vs ++ cs.drop (k + vs.length)) := by
    induction vs generalizing cs k with
    | nil => simpa using UpM.n
    | cons u vs ih =>
      simp only [List.length_cons] at h
      have h1 : UpC cs k u (cs.set k u) := UpC.any (by omega)
      have h2 := ih (cs := cs.set k u) (k := k + 1) (by simp; omega)
      have e : (cs.set k u).take (k + 1) ++ vs ++ (cs.set k u).drop (k + 1 + vs.length) = cs.take k ++ (u :: vs) ++ cs.drop (k + (u :: vs).length) := by
        rw [List.drop_set_of_lt (by omega), List.take_set, List.length_cons]
        rw [show k + 1 + vs.length = k + (vs.length + 1) by omega]
        rw [List.take_succ_eq_append_getElem (show k < cs.length by omega), List.set_append_right _ _ (by simp; omega)]
        simp [show min k cs.length = k by omega]
      rw [e] at h2
      exact .c h1 h2
theorem OSl.len (k : RepK n Rep) {p : Option Addr} {m cap : Nat} (h : OSl E n Rep M (.slice p m cap) xs bk) : xs.length = m := by
  obtain ⟨p, cap, e⟩ := h.val k; cases e; rfl
theorem RSl.len (k : RepK n Rep) {p : Option Addr} {m cap : Nat} (h : RSl n Rep M (.slice p m cap) xs) : xs.length = m := by
  obtain ⟨p, cap, e⟩ := h.val k; cases e; rfl
theorem OSl.app {css : List (List Value)} (h : Fa2 (Rep M) css xs) {css' : List (List Value)} (h' : Fa2 (Rep M) css' ys) {v' : Value} {bk' : Bl} (ho : SlO E n v' (css.flatten ++ css'.flatten) bk') : OSl E n Rep M v' (xs ++ ys) bk' :=
  ⟨css ++ css', by rw [List.flatten_append]; exact ho, h.append h'⟩
end
/-! ## A flat element: its cells are a function of it -/
def Flat {α : Type} (enc : α → List Value) : Rd → List Value → α → Prop := fun _ cs x => cs = enc x
theorem RepK.flat' {α : Type} {n : Nat} {enc : α → List Value} (h0 : 0 < n) (h1 : ∀ x, (enc x).length = n) (h2 : ∀ x, (enc x).all Go.Wk.one = true) : RepK n (Flat enc) :=
  ⟨h0, fun _ _ x h => h ▸ h1 x, fun _ _ x h => h ▸ h2 x, fun _ _ _ _ _ h => h⟩

/-! # append -/
theorem Hv.subC {R w0 l0 l l' w} (h : Hv R w0 l0 l w) (p : ∀ a, cnt a l' ≤ cnt a l) : Hv R w0 l0 l' w := by
  obtain ⟨j, hj⟩ := Go.Wk.subC p
  exact (h.perm hj).drop
theorem Hv.setCells {R w0 l0} : ∀ (vs : List Value) {A B w b cs E k cs'}, Hv R w0 l0 (A ++ (b, Obj.cells (List.toArray cs) (E : TypeId) (0, 0)) :: B) w → UpM cs k vs cs' → Hv R w0 l0 (A ++ (b, .cells cs'.toArray E (0, 0)) :: B) (w.setCells b k vs)
  | [], A, B, w, b, cs, E, k, cs', h, hu => by cases hu; exact h
  | v :: vs, A, B, w, b, cs, E, k, cs', h, hu => by
    cases hu with
    | c hu hm => exact Hv.setCells vs (h.set (.r .h) hu) hm
theorem SlV.src {P : Program} {sz : Nat} {M R : Rd} {l : Bl} {q : Option Addr} {m cap E T : Nat} {ys : List Value} {w : World} (h : SlV sz M (.slice q m cap) ys) (hM : ∀ b o, M b o → Has R l b o) (hr : Rv R l w) (hk : P.underlying T = some (.slice E)) (h1 : ys.all one = true) :
    Src P sz T (.slice q m cap) m ys w := by
  have h1' : ∀ u ∈ ys, u.oneCell' = true := fun u hu => one_oneCell' (List.all_eq_true.1 h1 u hu)
  obtain ⟨p, n, cap, e, h2, h3⟩ := h
  cases e
  rcases h3 with rfl | ⟨b, o, cs, E', fz, rfl, h4, h5⟩
  · obtain rfl : ys = [] := List.eq_nil_of_length_eq_zero (by omega)
    cases q with
    | none => exact Src.ofNil w hk cap
    | some a => exact Src.ofSlice w hk a 0 cap [] (by simp) (by simp) (by simp)
  · refine Src.ofSlice w hk _ _ _ ys h2 (fun j u hu => ?_) h1'
    have hj : j < ys.length := (List.getElem?_eq_some_iff.1 hu).1
    rw [add_none]
    exact cell_of (hr.get (hM _ _ h4)) (by rw [h5 j (by omega), hu])
section
variable {c : Cx} {ops : Array Oper} {Q : Ps} {rest : List Oper} {e : Env} {l : Bl} {x y : Operand} {T T2 E ty : TypeId}
/-- 'append(out, ..)' of one's own slice, of whatever slice or string. -/
theorem eAp {dd sz by' n m cap : Nat} {p : Option Addr} {xs ys : List Value} {bk l2 : Bl} (l3 : Bl) {zv yv : Value} (hT : c.P.underlying T = some (.slice E)) (hi : Inf c.P E zv sz by') (hszp : 0 < sz) (hzs : zv.cells.size = sz)
    (hx : ev e x = some (.slice p n cap)) (hy : ev e y = some yv) (h1 : SlO E sz (.slice p n cap) xs bk) (pl : ∀ a, cnt a l = cnt a (bk ++ l2)) (p3 : ∀ a, cnt a l3 ≤ cnt a l2) (hs : ∀ w, Rv c.R l w → Src c.P sz T2 yv m ys w)
    (hlim : (n + m) * by' ≤ 140737488355328) (hlim2 : n + m ≤ 1099511627776) :
    Ef c l (some dd) (.call ⟨.builtin .append, #[x, y], #[T, T2]⟩) e fun v l' => ∃ bk', SlO E sz v (xs ++ ys) bk' ∧ l' = bk' ++ l3 := by
  intro F w hv a ha ty pos aft g
  have hr := hv.toRv.suf
  have hsrc := hs w hr
  obtain ⟨i, i1, i2, i3, i4⟩ := hi.get
  subst i3; subst i4
  have hyl := hsrc.newsLen
  have hop : ∀ v w', (Builtin.append_ #[T, T2] ty #[.slice p n cap, yv]).run c.P w = .ok v w' → (execOp a.eval ⟨some dd, .call ⟨.builtin .append, #[x, y], #[T, T2]⟩, ty, pos, aft, g⟩).run c.P w = .ok (.value v) w' := fun v w' hr' => by
    unfold execOp
    simp only [resolve, invoke, builtin, Sem.run_bind, ha.eval hx, ha.eval hy, List.map_toArray, List.map, pure, Sem.run, Result.andThen_ok, hr']
  have hv2 : Hv c.R c.w0 c.l0 (F ++ (bk ++ l2)) w := hv.perm ((permC pl).append_left F)
  by_cases hroom : n + m ≤ cap
  · cases h1 with
    | nil =>
      obtain rfl : m = 0 := by omega
      obtain rfl : ys = [] := List.eq_nil_of_length_eq_zero (by simpa using hyl)
      have hrun : (Builtin.append_ #[T, T2] ty #[.slice none 0 0, yv]).run c.P w = .ok (.slice none 0 0) w := by
        rcases hsrc.kind with ⟨e', hk⟩ | hk <;> simp [Builtin.append_, run_underlying hT, run_underlying hk, sizeOf, typeInfo, i1, hsrc.len, hsrc.cells]
      exact .inl ⟨_, _, _, hop _ _ hrun, ⟨[], .nil, rfl⟩, hv2.subC fun a => by have := p3 a; simp only [cnt_append, cnt_nil]; omega⟩
    | @blk b _ sp _ _ k1 k2 k3 =>
      have hown : w.heap[b]? = some (.cells (xs ++ sp).toArray E (0, 0)) := hv2.own _ _ (by simp)
      have hle : ys.length ≤ sp.length := by
        have h5 : (n + m) * i.size ≤ cap * i.size := Nat.mul_le_mul_right _ hroom
        rw [List.length_append, k1] at k2
        rw [Nat.add_mul] at h5
        omega
      have hrun := run_append_room_src (P := c.P) w T T2 ty E i hT i1 b 0 n cap yv m ys hsrc hroom
        (fun j hj => by rw [cell_of hown (v := (xs ++ sp)[0 + n * i.size + j]'(by rw [List.length_append, k1]; omega)) (List.getElem?_eq_getElem _)]; rfl)
        (fun j hj => by simp [World.frozen?, hown])
      have hu : UpM (xs ++ sp) (n * i.size) ys (xs ++ ys ++ sp.drop ys.length) := by
        have := OSl.at.UpM.any (cs := xs ++ sp) (k := n * i.size) (vs := ys) (by rw [List.length_append, k1]; omega)
        have e : (xs ++ sp).take (n * i.size) ++ ys ++ (xs ++ sp).drop (n * i.size + ys.length) = xs ++ ys ++ sp.drop ys.length := by
          rw [← k1, List.take_left, List.drop_append]; simp
        rwa [e] at this
      have hh := Hv.setCells ys (A := F) (B := l2) hv2 hu
      refine .inl ⟨_, _, _, hop _ _ hrun, ⟨_, .blk (sp := sp.drop ys.length) (by rw [List.length_append, k1, hyl, Nat.add_mul]) ?_ hroom, rfl⟩, ?_⟩
      · simp only [List.length_append, List.length_drop] at k2 ⊢; omega
      · rw [Nat.zero_add]
        exact hh.subC fun a => by have := p3 a; simp only [cnt_append, cnt_cons]; simp only [cnt_nil]; omega
  · have hold : (Builtin.firstCells i.size n (.slice p n cap)).run c.P w.drew = .ok xs.toArray w.drew := by
      have hv3 : Rv c.R (F ++ (bk ++ l2)) w.drew := (hv2.drew (w.drawn + 1)).toRv
      obtain ⟨p', n', cap', e, hl, hf⟩ := h1.toI.first (P := c.P) hv3 (fun q hq => .inr (List.mem_append_right _ (List.mem_append_left _ hq)))
      cases e; exact hf
    have hrun := run_append_grow_src (P := c.P) w T T2 ty E i zv hT i1 i2 p n cap xs hold yv m ys hsrc (by omega) (by omega) (growslice_fits (by omega) hlim)
    have hxl : xs.length = n * i.size := by obtain ⟨_, _, _, e1, e2⟩ := h1.toI.len; cases e1; exact e2
    have hge := grownCap_ge w (n + m) cap E
    have hg := grow_hv hv2 (.cells (xs ++ ys ++ (Builtin.zeroCells zv.cells (grownCap w (n + m) cap E - (n + m))).toList).toArray E (0, 0))
    refine .inl ⟨_, _, _, hop _ _ hrun, ⟨_, .blk (sp := (Builtin.zeroCells zv.cells (grownCap w (n + m) cap E - (n + m))).toList) (by rw [List.length_append, hxl, hyl, Nat.add_mul]) ?_ hge, rfl⟩, ?_⟩
    · simp only [List.length_append, Array.length_toList, size_zeroCells, hzs, hxl, hyl, ← Nat.add_mul]
      congr 1; omega
    · have e : ((xs ++ ys).toArray ++ Builtin.zeroCells zv.cells (grownCap w (n + m) cap E - (n + m))) = (xs ++ ys ++ (Builtin.zeroCells zv.cells (grownCap w (n + m) cap E - (n + m))).toList).toArray := by
        apply Array.ext'; simp
      rw [e]
      exact hg.subC fun a => by have := p3 a; simp only [cnt_append, cnt_cons]; simp only [cnt_nil]; omega
/-- An empty literal '[]T{}'. -/
theorem eBs0 {dd sz : Nat} (hT : c.P.underlying T = some (.slice E)) (hs : Sz c.P E sz) : Ef c l (some dd) (.buildSlice T 0 #[]) e fun v l' => ∃ b, v = .slice (some ⟨b, 0, none⟩) 0 0 ∧ l' = (b, .cells #[] E (0, 0)) :: l :=
  eNew (vf := fun b => .slice (some ⟨b, 0, none⟩) 0 0) fun a w ty pos aft g ha => by
    unfold execOp
    simp only [Instr.buildSlice, underlying, program, Sem.run_bind, Sem.run, hT, Result.andThen_ok, pure, hs w]
    simp [Instr.fill, newRow, newObj, Sem.run_bind, Sem.run, pure, bind, Sem.bind, Sem.run_bind']
    congr 2; apply Array.ext'; simp
theorem SlO.empty {E sz b : Nat} : SlO E sz (.slice (some ⟨b, 0, none⟩) 0 0) [] [(b, .cells #[] E (0, 0))] := .blk (xs := []) (sp := []) (by simp) (by simp) (Nat.le_refl _)
/-! ## Calls that hand back new memory, and leave what there is -/
/-- .. the callee owns nothing, and may read all. -/
theorem Tri.all {P f args R l} {S : Value → Bl → Prop} (h : Tri P f args (fun b o => Has R l b o) [] S) : Tri P f args R l fun v l' => ∃ nw, l' = nw ++ l ∧ S v nw := by
  have := Tri.frame (P := P) (f := f) (args := args) (R := R) (l := []) l h
  simpa using this
theorem cl0 {d : Nat} {xs : List Operand} {ts : Array TypeId} {vs : List Value} {f : FuncId} {S : Value → Bl → Prop} {pos : String} {aft : Array Edge} (hf : Fb c.P f) (hx : evl e xs = some vs) (ht : Tri c.P f vs (fun b o => Has c.R l b o) [] S)
    (h : ∀ v nw, S v nw → Wo c ops Q rest ((d, v) :: e) (nw ++ l)) : Wo c ops Q (⟨some d, .call ⟨.value (.func f), xs.toArray, ts⟩, ty, pos, aft, none⟩ :: rest) e l :=
  cl hf hx ht.all fun v l' ⟨nw, e, hS⟩ => e ▸ h v nw hS
/-- .. as an effect. -/
theorem eC0 {d : Option Tmp} {xs : List Operand} {ts : Array TypeId} {vs : List Value} {f : FuncId} {S : Value → Bl → Prop} (hf : Fb c.P f) (hx : evl e xs = some vs) (ht : ∀ R : Rd, (∀ b o, Has c.R l b o → R b o) → Tri c.P f vs R [] S) :
    Ef c l d (.call ⟨.value (.func f), xs.toArray, ts⟩) e fun v l' => ∃ nw, l' = nw ++ l ∧ S v nw :=
  eCl hf hx fun F => (ht (fun b o => Has (fun b o => c.R b o ∨ (b, o) ∈ F) l b o) fun b o h => h.imp .inl id).all
/-- .. and hand back what is known: nothing new. -/
theorem cl0v {d : Nat} {xs : List Operand} {ts : Array TypeId} {vs : List Value} {f : FuncId} {u : Value} {pos : String} {aft : Array Edge} (hf : Fb c.P f) (hx : evl e xs = some vs) (ht : Tri c.P f vs (fun b o => Has c.R l b o) [] fun v l' => v = u ∧ l' = [])
    (h : Wo c ops Q rest ((d, u) :: e) l) : Wo c ops Q (⟨some d, .call ⟨.value (.func f), xs.toArray, ts⟩, ty, pos, aft, none⟩ :: rest) e l :=
  cl0 hf hx ht fun v nw ⟨h1, h2⟩ => by rw [h1, h2]; exact h
end
end Go.Wk
namespace Go.Wk
open Go
theorem Inf.zr {P : Program} {E z sz by'} (h : Inf P E z sz by') : Zr P E z := fun w => by
  obtain ⟨i, h1, h2, h3, h4⟩ := h.get
  simp [zeroValue, typeInfo, program, Sem.run_bind, h1, h2, pure, bind, Sem.bind, Sem.run]
theorem Inf.sz {P : Program} {E z sz by'} (h : Inf P E z sz by') : Sz P E sz := fun w => by
  obtain ⟨i, h1, h2, h3, h4⟩ := h.get
  simp [sizeOf, typeInfo, program, Sem.run_bind, h1, h3, pure, bind, Sem.bind, Sem.run]
section
variable {c : Cx} {ops : Array Oper} {Q : Ps} {rest : List Oper} {e : Env} {l : Bl} {x y : Operand} {T T2 E ty ty2 : TypeId} {α : Type}
/-- 'out = append(out, x)'. -/
theorem apO {d1 d2 n m cap by' : Nat} {p : Option Addr} {xs : List α} {a : α} {M : Rd} {Rep : Rd → List Value → α → Prop} {bk : Bl} {zv yv : Value} {vs : List Value} {pos pos2 : String} {aft aft2 : Array Edge} (l2 : Bl) (hT : c.P.underlying T = some (.slice E)) (hi : Inf c.P E zv n by') (hzs : zv.cells.size = n) (k : RepK n Rep)
    (h : OSl E n Rep M (.slice p m cap) xs bk) (hr : Rep M vs a) (hlim : (m + 1) * by' ≤ 140737488355328) (hlim2 : m + 1 ≤ 1099511627776) (hn : n ≤ 16777216) (pl : ∀ a, cnt a l = cnt a (bk ++ l2))
    (hx : ∀ u, ev ((d1, u) :: e) x = some (.slice p m cap)) (hy : ev e y = some yv) (hyv : yv.cells = vs.toArray)
    (hk : ∀ v bk' u, OSl E n Rep M v (xs ++ [a]) bk' → Wo c ops Q rest ((d2, v) :: (d1, u) :: e) (bk' ++ l2)) :
    Wo c ops Q (⟨some d1, .buildSlice T 1 #[(0, y)], ty, pos, aft, none⟩ :: ⟨some d2, .call ⟨.builtin .append, #[x, .tmp d1], #[T, T]⟩, ty2, pos2, aft2, none⟩ :: rest) e l := by
  have hl := k.len _ _ _ hr
  have hn0 := k.pos
  obtain ⟨css, h1, h2⟩ := h
  have hfill : Fill (fun i => some (i * n, n)) [(0, yv)] ((Array.range (1 * n)).map (zv.cells[· % zv.cells.size]!)).toList vs := by
    have hu := OSl.at.UpM.any (cs := ((Array.range (1 * n)).map (zv.cells[· % zv.cells.size]!)).toList) (k := 0) (vs := vs) (by simp; omega)
    have e : ((Array.range (1 * n)).map (zv.cells[· % zv.cells.size]!)).toList.take 0 ++ vs ++ ((Array.range (1 * n)).map (zv.cells[· % zv.cells.size]!)).toList.drop (0 + vs.length) = vs := by
      rw [List.drop_of_length_le (by simp; omega)]; simp
    rw [e] at hu
    exact .c (by simp [hl]) (by omega) hyv hu .n
  refine eo (eBs (sz := n) hT hi.sz ⟨zv, hi.zr, (Array.toArray_toList).symm⟩ ⟨by omega, by omega⟩ (ps := [(0, y)]) (vs := [(0, yv)]) (by simp [evs, hy]) hfill) ?_
  rintro v l' ⟨b, rfl, rfl⟩
  refine eo (eAp (m := 1) (ys := vs) (yv := .slice (some ⟨b, 0, none⟩) 1 1) l2 hT hi hn0 hzs (hx _) (by simp [putE, ev, gt_cons]) h1 (l2 := (b, .cells vs.toArray E (0, 0)) :: l2) (fun a => by have := pl a; simp only [cnt_cons, cnt_append] at this ⊢; omega) (fun a => by simp only [cnt_cons]; omega)
    (fun w hr' => SlV.src (M := fun b' o => (b', o) ∈ [(b, Obj.cells vs.toArray E (0, 0))]) ⟨_, 1, _, rfl, by omega, .inr ⟨b, 0, vs, E, (0, 0), rfl, by simp, fun j _ => by simp⟩⟩ (fun b' o' hb => .inr (by simp at hb; simp [hb])) hr' hT (k.one _ _ _ hr)) hlim hlim2) ?_
  rintro v l' ⟨bk', ho, rfl⟩
  exact hk v bk' _ (OSl.app h2 (.cons hr .nil) (by simpa using ho))
end
end Go.Wk
namespace Go.Wk
open Go
/-! ## Parts of slices -/
theorem SlV.sub {sz : Nat} {R : Rd} {p : Option Addr} {n cap L H N : Nat} {xs : List Value} (h : SlV sz R (.slice p n cap) xs) (h1 : L ≤ H) (h2 : H ≤ n) (h3 : H ≤ N) :
    SlV sz R (.slice (if N = L then p else p.map (·.add (L * sz))) (H - L) (N - L)) ((xs.drop (L * sz)).take ((H - L) * sz)) := by
  obtain ⟨p, n, cap, e, hl, hc⟩ := h
  cases e
  have hle : L * sz + (H - L) * sz ≤ n * sz := by rw [← Nat.add_mul]; exact Nat.mul_le_mul_right _ (by omega)
  refine ⟨_, _, _, rfl, by rw [List.length_take, List.length_drop]; omega, ?_⟩
  by_cases hz : H - L = 0
  · exact .inl hz
  · rcases hc with rfl | ⟨b, o, cs, E, fz, rfl, h4, h5⟩
    · omega
    · refine .inr ⟨b, o + L * sz, cs, E, fz, ?_, h4, fun j hj => ?_⟩
      · rw [if_neg (by omega)]; simp [add_none]
      · rw [List.getElem?_take_of_lt hj, List.getElem?_drop, ← h5 _ (by omega), Nat.add_assoc]
theorem flat_take {n : Nat} {css : List (List Value)} (h : ∀ c ∈ css, c.length = n) (k : Nat) : (css.take k).flatten = css.flatten.take (k * n) := by
  induction css generalizing k with
  | nil => simp
  | cons c css ih =>
    have hc := h c (List.mem_cons_self ..)
    cases k with
    | zero => simp
    | succ k =>
      rw [List.take_succ_cons, List.flatten_cons, ih (fun c hc => h c (List.mem_cons_of_mem _ hc)), List.flatten_cons, List.take_append, List.take_of_length_le (l := c) (by rw [hc, Nat.add_mul]; omega), hc, Nat.add_mul]
      congr 2; omega
theorem flat_drop {n : Nat} {css : List (List Value)} (h : ∀ c ∈ css, c.length = n) (k : Nat) : (css.drop k).flatten = css.flatten.drop (k * n) := by
  induction css generalizing k with
  | nil => simp
  | cons c css ih =>
    have hc := h c (List.mem_cons_self ..)
    cases k with
    | zero => simp
    | succ k =>
      rw [List.drop_succ_cons, ih (fun c hc => h c (List.mem_cons_of_mem _ hc)), List.flatten_cons, List.drop_append, List.drop_of_length_le (l := c) (by rw [hc, Nat.add_mul]; omega), hc, Nat.add_mul]
      simp
theorem RSl.sub {α : Type} {n : Nat} {Rep : Rd → List Value → α → Prop} {M : Rd} (k : RepK n Rep) {p : Option Addr} {m cap L H N : Nat} {xs : List α} (h : RSl n Rep M (.slice p m cap) xs) (h1 : L ≤ H) (h2 : H ≤ m) (h3 : H ≤ N) :
    RSl n Rep M (.slice (if N = L then p else p.map (·.add (L * n))) (H - L) (N - L)) ((xs.drop L).take (H - L)) := by
  obtain ⟨css, hs, hf⟩ := h
  refine ⟨(css.drop L).take (H - L), ?_, (hf.drop L).take _⟩
  have hl := k.lens hf
  rw [flat_take (fun c hc => hl c (List.mem_of_mem_drop hc)), flat_drop hl]
  exact hs.sub h1 h2 h3
/-! ## Results out of slots and variables -/
inductive Rz (P : Program) (R : Rd) (l : Bl) (e : Env) : List ResultVar → List Value → Prop
  | nil : Rz P R l e [] []
  | tmp {t v r vs} : gt e t = some v → Rz P R l e r vs → Rz P R l e (.tmp t :: r) (v :: vs)
  | agg {s T k b cs us E fz r vs} : AgT P T k → gt e s = some (.pointer (some ⟨b, 0, none⟩)) → Has R l b (.cells (List.toArray cs) E fz) → Tk 0 k cs us → Rz P R l e r vs → Rz P R l e (.cell s T :: r) (.agg us.toArray :: vs)
  | one {s T b cs v E fz r vs} : NAg P T → gt e s = some (.pointer (some ⟨b, 0, none⟩)) → Has R l b (.cells (List.toArray cs) E fz) → cs[0]? = some v → Rz P R l e r vs → Rz P R l e (.cell s T :: r) (v :: vs)
section
variable {c : Cx} {ops : Array Oper} {Q : Ps} {rest : List Oper} {e : Env} {l : Bl}
theorem Rz.run {P : Program} {R : Rd} {n a w} (ha : Ag n a e) (hw : Rv R l w) {F : ResultVar → Sem Value} (hF : ∀ t, F (.tmp t) = pure (a.tmps.getD t undef)) (hC : ∀ t T, F (.cell t T) = (do loadVar T (← asAddr (a.tmps.getD t undef)))) :
    ∀ {rs vs}, Rz P R l e rs vs → (rs.mapM F).run P w = .ok vs w := by
  intro rs vs h
  induction h with
  | nil => simp [pure, Sem.run]
  | @tmp t v r vs h1 h2 ih =>
    have h3 : a.tmps.getD t undef = v := by simp [ha.agree t v h1]
    rw [List.mapM_cons]
    simp only [Sem.run_bind, hF, h3, ih]
    simp only [pure, Sem.run, Result.andThen_ok, Sem.run_bind]
    rw [ih]; rfl
  | @agg s T k b cs us E fz r vs hT hg hh ht h2 ih =>
    have h1 := loadFrom (P := P) (hw.get hh) k 0 0 #[] (by have := ht.eq.2; omega)
    rw [Nat.add_zero, ht.eq.1] at h1
    have hp : a.tmps.getD s undef = .pointer (some ⟨b, 0, none⟩) := by simp [ha.agree s _ hg]
    rw [List.mapM_cons]
    simp only [hC, hp]
    simp only [Sem.run_bind, asAddr, pure, Sem.run, Result.andThen_ok, loadVar, (hT w).1, (hT w).2, loadCells, h1, if_true]
    rw [ih]
    simp [Sem.run]
  | @one s T b cs v E fz r vs hT hg hh ht h2 ih =>
    have hp : a.tmps.getD s undef = .pointer (some ⟨b, 0, none⟩) := by simp [ha.agree s _ hg]
    rw [List.mapM_cons]
    simp only [hC, hp]
    simp only [Sem.run_bind, asAddr, pure, Sem.run, Result.andThen_ok, loadVar, hT w, load, cell_of (hw.get hh) ht, Bool.false_eq_true, if_false]
    rw [ih]
    simp [Sem.run]
/-- The end of a function, whatever its results come out of. -/
theorem finZ {P : Program} {n : Nat} {R : Rd} {w0 : World} {l0 : Bl} {fn : Func} {rs : List ResultVar} {vs : List Value} {v : Value} {S : Value → Bl → Prop} (l' : Bl) (hr : fn.results = rs.toArray) (h : Rz P R l e rs vs) (hv : res vs = v)
    (p : ∀ a, cnt a l' ≤ cnt a l) (hk : S v l') : Dn ⟨P, n, R, w0, l0⟩ (bodyPost P fn fun e w' => ∃ v l', e = .returned v ∧ S v l' ∧ Hv R w0 l0 l' w') .ret e l := by
  intro w hw a ha
  refine ⟨ha.defers, v, ?_, v, l', rfl, hk, hw.subC p⟩
  unfold results
  rw [hr, List.mapM_toArray]
  simp only [Sem.run_bind, Functor.map, Sem.run_bind']
  rw [Rz.run ha hw.toRv (fun _ => rfl) (fun _ _ => rfl) h]
  simp only [Result.andThen_ok, Function.comp, pure, Sem.run, res_eq, hv]
end
end Go.Wk
namespace Go.Wk
open Go
section
variable {c : Cx} {ops : Array Oper} {Q : Ps} {rest : List Oper} {e : Env} {l : Bl} {ty : TypeId} {pos : String} {aft : Array Edge}
/-- A call that takes all but the first blocks. -/
theorem clTs {d : Nat} {xs : List Operand} {ts : Array TypeId} {vs : List Value} {f : FuncId} {S : Value → Bl → Prop} (A : Bl) (hf : Fb c.P f) (hx : evl e xs = some vs) (ht : Tri c.P f vs (fun b o => c.R b o ∨ (b, o) ∈ A) l S)
    (h : ∀ v l', S v l' → Wo c ops Q rest ((d, v) :: e) (A ++ l')) : Wo c ops Q (⟨some d, .call ⟨.value (.func f), xs.toArray, ts⟩, ty, pos, aft, none⟩ :: rest) e (A ++ l) :=
  clQ hf hx l A (fun a => List.perm_append_comm.cnt a) ht fun v l' hS => oPerm List.perm_append_comm (h v l' hS)
theorem clT {d : Nat} {xs : List Operand} {ts : Array TypeId} {vs : List Value} {f : FuncId} {S : Value → Bl → Prop} {x : Nat × Obj} (hf : Fb c.P f) (hx : evl e xs = some vs) (ht : Tri c.P f vs (fun b o => c.R b o ∨ (b, o) ∈ [x]) l S)
    (h : ∀ v l', S v l' → Wo c ops Q rest ((d, v) :: e) (x :: l')) : Wo c ops Q (⟨some d, .call ⟨.value (.func f), xs.toArray, ts⟩, ty, pos, aft, none⟩ :: rest) e (x :: l) :=
  clTs [x] hf hx ht h
theorem clT2 {d : Nat} {xs : List Operand} {ts : Array TypeId} {vs : List Value} {f : FuncId} {S : Value → Bl → Prop} {x y : Nat × Obj} (hf : Fb c.P f) (hx : evl e xs = some vs) (ht : Tri c.P f vs (fun b o => c.R b o ∨ (b, o) ∈ [x, y]) l S)
    (h : ∀ v l', S v l' → Wo c ops Q rest ((d, v) :: e) (x :: y :: l')) : Wo c ops Q (⟨some d, .call ⟨.value (.func f), xs.toArray, ts⟩, ty, pos, aft, none⟩ :: rest) e (x :: y :: l) :=
  clTs [x, y] hf hx ht h
end
end Go.Wk
namespace Go.Wk
open Go
/-! ## Where two ways meet -/
def Jq (n : Nat) (R : Rd) (w0 : World) (l0 : Bl) (I : Env → Bl → Prop) (Q : Ps) : Ps :=
  Exit.then (fun a w => ∃ e l, Hv R w0 l0 l w ∧ Ag n a e ∧ I e l) Q
section
variable {c : Cx} {Q : Ps} {e : Env} {l : Bl}
theorem cutJ {x y : Code} (I : Env → Bl → Prop) (h1 : Wc c x (Jq c.n c.R c.w0 c.l0 I Q) e l) (h2 : ∀ e l, I e l → Wc c y Q e l) : Wc c x (Sq c.n c.P y Q) e l := by
  intro w hv a ha hok
  refine wp_mono (h1 w hv a ha hok) ?_
  intro x a w hq
  cases x <;> first | (obtain ⟨e, l, hv, ha, hI⟩ := hq; exact h2 e l hI w hv a ha) | exact hq
theorem dJ {I : Env → Bl → Prop} {e' : Env} (hs : Sub e e') (hI : I e' l) : Dn c (Jq c.n c.R c.w0 c.l0 I Q) .normal e l := fun w hv a ha => ⟨e', l, hv, ha.sub hs, hI⟩
theorem dJr {I : Env → Bl → Prop} (h : Dn c Q .ret e l) : Dn c (Jq c.n c.R c.w0 c.l0 I Q) .ret e l := h
theorem dJe {I : Env → Bl → Prop} {id} (h : Dn c Q (.exit id) e l) : Dn c (Jq c.n c.R c.w0 c.l0 I Q) (.exit id) e l := h
end
end Go.Wk
namespace Go.Wk
theorem all_one_map {α : Type} {f : α → Go.Value} (l : List α) (h : ∀ x, one (f x) = true) : (l.map f).all one = true := by
  rw [List.all_eq_true]; intro v hv; obtain ⟨x, _, rfl⟩ := List.mem_map.1 hv; exact h x
end Go.Wk
namespace Go.Wk
open Go
/-- .. whose length is no more than its room. -/
def SlC (sz : Nat) (R : Rd) (v : Value) (xs : List Value) : Prop := SlV sz R v xs ∧ ∀ p n cap, v = .slice p n cap → n ≤ cap
section
variable {sz : Nat} {R R' : Rd} {v : Value} {xs : List Value}
theorem SlC.len (h : SlC sz R v xs) : ∃ p n cap, v = .slice p n cap ∧ xs.length = n * sz := h.1.len
theorem SlC.mono (hR : ∀ b o, R b o → R' b o) (h : SlC sz R v xs) : SlC sz R' v xs := ⟨h.1.mono hR, h.2⟩
theorem SlC.cap {p : Option Addr} {n cap : Nat} (h : SlC sz R (.slice p n cap) xs) : n ≤ cap := h.2 _ _ _ rfl
theorem SlC.nil : SlC sz R (.slice none 0 0) [] := ⟨⟨none, 0, 0, rfl, by simp, .inl rfl⟩, fun _ _ _ h => by cases h; exact Nat.le_refl _⟩
theorem SlI.toC {E : Nat} {bk : Bl} (h : SlI E sz v xs bk) (hb : ∀ x ∈ bk, R x.1 x.2) : SlC sz R v xs := ⟨h.toV hb, fun p n cap e => by
  subst e
  cases h with
  | emp => exact Nat.zero_le _
  | blk _ _ h => exact h⟩
end
end Go.Wk
namespace Go.Wk
open Go
theorem SlV.take {sz : Nat} {R : Rd} {p : Option Addr} {n cap k : Nat} {xs : List Value} (h : SlV sz R (.slice p n cap) xs) (hk : k ≤ n) : SlV sz R (.slice p k cap) (xs.take (k * sz)) := by
  obtain ⟨p, n, cap, e, hl, hc⟩ := h
  cases e
  have hle : k * sz ≤ n * sz := Nat.mul_le_mul_right _ hk
  refine ⟨_, _, _, rfl, by rw [List.length_take]; omega, ?_⟩
  rcases hc with rfl | ⟨b, o, cs, E, fz, rfl, h4, h5⟩
  · exact .inl (by omega)
  · exact .inr ⟨b, o, cs, E, fz, rfl, h4, fun j hj => by rw [List.getElem?_take_of_lt hj, h5 _ (by omega)]⟩
end Go.Wk
namespace Go.Wk
open Go
theorem Tri.ro {P f args R l} {u : Value} (h : Tri P f args (fun b o => Has R l b o) [] fun v l' => v = u ∧ l' = []) : Tri P f args R l fun v l' => v = u ∧ l' = l :=
  h.all.mono fun v l' ⟨nw, e, h1, h2⟩ => ⟨h1, by rw [e, h2]; rfl⟩
end Go.Wk
namespace Go.Wk
open Go
section
variable {c : Cx} {ops : Array Oper} {Q : Ps} {rest : List Oper} {e : Env} {l : Bl} {ty : TypeId} {pos : String} {aft : Array Edge}
/-- A guard whose own operation was not wanted. -/
theorem gU {op : Op} {k t d : Nat} {want : Bool} (hd : (ops[k]?).bind (·.dst) = some t) (hg : gt e t = some undef) (h : Wo c ops Q rest ((d, undef) :: e) l) :
    Wo c ops Q (⟨some d, op, ty, pos, aft, some (k, want)⟩ :: rest) e l := by
  intro hok w hv a ha
  obtain ⟨h1, h2⟩ := okL_cons hok
  have hy : yielded ops a.tmps k = none := by simp [yielded, hd, ha.agree t _ hg, undef]
  rw [wpList, if_neg (by simp [Region.wanted, hy])]
  exact h h2 w hv _ (ha.put (okD_some h1) _)
end
end Go.Wk
namespace Go.Wk
theorem upAll {cs vs : List Go.Value} (h : cs.length = vs.length) : UpM cs 0 vs vs := by
  have := OSl.at.UpM.any (cs := cs) (k := 0) (vs := vs) (by omega)
  rwa [List.take_zero, List.nil_append, Nat.zero_add, ← h, List.drop_length, List.append_nil] at this
theorem tkAll {vs : List Go.Value} {n : Nat} (h : vs.length = n) : Tk 0 n vs vs := by
  have := Tk.any (off := 0) (n := n) (cs := vs) (by omega)
  rwa [List.drop_zero, List.take_of_length_le (by omega)] at this
end Go.Wk
