import Derived.WalkKit
import Derived.Deep.Quiet
import Derived.StillTail
import Derived.Deep.LoopGhost
import Derived.KernelRfl
set_option linter.unusedVariables false
set_option linter.unusedSimpArgs false
set_option linter.unusedSectionVars false
set_option maxRecDepth 20000
namespace Go.Wk
open Go

/-! ## Slots -/
abbrev Env := List (Nat × Value)
def gt : Env → Nat → Option Value
  | [], _ => none
  | (k, v) :: e, t => match Nat.beq k t with
    | true => some v
    | false => gt e t
def ev (e : Env) : Operand → Option Value
  | .tmp t => gt e t
  | .const v => some v
  | .global g => some (.pointer (some ⟨g, 0, none⟩))
  | .func f => some (.func (.func f) #[] #[])
structure Ag (n : Nat) (a : Act) (e : Env) : Prop where
  size : a.tmps.size = n
  defers : a.defers = []
  agree : ∀ t v, gt e t = some v → a.tmps[t]? = some v
theorem Ag.eval {n a e x v} (h : Ag n a e) (hx : ev e x = some v) : a.eval x = v := by
  cases x with
  | tmp t =>
    have := h.agree t v hx
    simp [Act.eval, this]
  | const c => simpa [ev, Act.eval] using hx
  | global g => simpa [ev, Act.eval] using hx
  | func f => simpa [ev, Act.eval] using hx
theorem gt_cons {k v e t} : gt ((k, v) :: e) t = if k = t then some v else gt e t := by
  show (match Nat.beq k t with | true => some v | false => gt e t) = _
  by_cases h : k = t
  · subst h; simp [Nat.beq_refl]
  · rw [if_neg h]
    have : Nat.beq k t = false := by
      cases hb : Nat.beq k t
      · rfl
      · exact absurd (Nat.eq_of_beq_eq_true hb) h
    rw [this]
theorem Ag.put {n a e d} (h : Ag n a e) (hd : d < n) (v : Value) : Ag n (a.put (some d) v) ((d, v) :: e) := by
  refine ⟨by simp [Act.put, h.size], by simp [Act.put, h.defers], fun t u hu => ?_⟩
  rw [gt_cons] at hu
  by_cases hk : d = t
  · subst hk
    rw [if_pos rfl] at hu
    cases hu
    simp [Act.put, h.size, hd]
  · rw [if_neg hk] at hu
    simp [Act.put, Array.getElem?_setIfInBounds_ne hk, h.agree t u hu]
theorem Ag.putN {n a e} (h : Ag n a e) (v : Value) : Ag n (a.put none v) e := h
/-- One set of slots says no more than another. -/
def Sub (e e' : Env) : Prop := ∀ t v, gt e' t = some v → gt e t = some v
theorem Sub.nil {e} : Sub e [] := fun _ _ h => by cases h
theorem Sub.cons {e e' t v} (h : gt e t = some v) (h' : Sub e e') : Sub e ((t, v) :: e') := fun s u hu => by
  rw [gt_cons] at hu
  by_cases hk : t = s
  · subst hk; rw [if_pos rfl] at hu; cases hu; exact h
  · rw [if_neg hk] at hu; exact h' s u hu
theorem Ag.sub {n a e e'} (h : Ag n a e) (hs : Sub e e') : Ag n a e' := ⟨h.size, h.defers, fun t v hv => h.agree t v (hs t v hv)⟩
def mk : Nat → List Value → Env
  | _, [] => []
  | i, v :: vs => (i, v) :: mk (i + 1) vs
theorem mk_get : ∀ (vs : List Value) (i t : Nat) (v : Value), gt (mk i vs) t = some v → i ≤ t ∧ vs[t - i]? = some v
  | [], _, _, _, h => by cases h
  | x :: vs, i, t, v, h => by
    rw [mk, gt_cons] at h
    by_cases hk : i = t
    · subst hk; rw [if_pos rfl] at h; cases h; simp
    · rw [if_neg hk] at h
      obtain ⟨h1, h2⟩ := mk_get vs (i + 1) t v h
      refine ⟨by omega, ?_⟩
      rw [show t - i = (t - (i + 1)) + 1 by omega]; simpa using h2

/-! ## The heap -/
abbrev Bl := List (Nat × Obj)
abbrev Rd := Nat → Obj → Prop
def keys (l : Bl) : List Nat := l.map (·.1)
/-- What can be read: the owned blocks l, and what R tells. -/
structure Rv (R : Rd) (l : Bl) (w : World) : Prop where
  nd : (keys l).Nodup
  own : ∀ b o, (b, o) ∈ l → w.heap[b]? = some o
  rd : ∀ b o, R b o → w.heap[b]? = some o
  dis : ∀ b o, R b o → b ∉ keys l
/-- The world since w0, when l0 was owned: now l is. -/
structure Hv (R : Rd) (w0 : World) (l0 l : Bl) (w : World) : Prop extends Rv R l w where
  new : ∀ b, b ∈ keys l → b ∈ keys l0 ∨ w0.heap.size ≤ b
  ext : ∀ b, b < w0.heap.size → b ∉ keys l0 → w.heap[b]? = w0.heap[b]?
  size : w0.heap.size ≤ w.heap.size
  os : w.os = w0.os
  tape : w.tape = w0.tape
  output : w.output = w0.output
def Has (R : Rd) (l : Bl) (b : Nat) (o : Obj) : Prop := R b o ∨ (b, o) ∈ l
theorem Rv.get {R l w b o} (h : Rv R l w) (hh : Has R l b o) : w.heap[b]? = some o := hh.elim (h.rd b o) (h.own b o)
theorem m0 {R : Rd} {l : Bl} {b o} : Has R ((b, o) :: l) b o := .inr (List.mem_cons_self ..)
theorem mS {R : Rd} {l : Bl} {b o p} (h : Has R l b o) : Has R (p :: l) b o := h.imp id (List.mem_cons_of_mem _)
theorem mR {R : Rd} {l : Bl} {b o} (h : R b o) : Has R l b o := .inl h
theorem m1 {R : Rd} {l : Bl} {b o p} : Has R (p :: (b, o) :: l) b o := mS m0
theorem m2 {R : Rd} {l : Bl} {b o p q} : Has R (p :: q :: (b, o) :: l) b o := mS m1
theorem m3 {R : Rd} {l : Bl} {b o p q r} : Has R (p :: q :: r :: (b, o) :: l) b o := mS m2
theorem m4 {R : Rd} {l : Bl} {b o p q r s} : Has R (p :: q :: r :: s :: (b, o) :: l) b o := mS m3
theorem m5 {R : Rd} {l : Bl} {b o p q r s t} : Has R (p :: q :: r :: s :: t :: (b, o) :: l) b o := mS m4
theorem mL {R : Rd} {l l' : Bl} {b o} (h : Has R l b o) : Has R (l ++ l') b o := h.imp id (List.mem_append_left _)
theorem mA {R : Rd} {l l' : Bl} {b o} (h : Has R l' b o) : Has R (l ++ l') b o := h.imp id (List.mem_append_right _)
theorem mem_keys {l : Bl} {b o} (h : (b, o) ∈ l) : b ∈ keys l := List.mem_map.2 ⟨_, h, rfl⟩
theorem keys_mem {l : Bl} {b} (h : b ∈ keys l) : ∃ o, (b, o) ∈ l := by
  obtain ⟨⟨b', o⟩, h1, rfl⟩ := List.mem_map.1 h; exact ⟨o, h1⟩
theorem lt_of_get {w : World} {b o} (h : w.heap[b]? = some o) : b < w.heap.size := by
  rcases Nat.lt_or_ge b w.heap.size with h' | h'
  · exact h'
  · rw [Array.getElem?_eq_none h'] at h; cases h
theorem Rv.lt {R l w b} (h : Rv R l w) (hb : b ∈ keys l) : b < w.heap.size := by
  obtain ⟨o, ho⟩ := keys_mem hb; exact lt_of_get (h.own b o ho)

theorem Rv.start {R l w} (h : Rv R l w) : Hv R w l l w :=
  { h with new := fun b hb => .inl hb, ext := fun _ _ _ => rfl, size := Nat.le_refl _, os := rfl, tape := rfl, output := rfl }
theorem Hv.drew {R w0 l0 l w} (h : Hv R w0 l0 l w) (k : Nat) : Hv R w0 l0 l { w with drawn := k } :=
  { nd := h.nd, own := h.own, rd := h.rd, dis := h.dis, new := h.new, ext := h.ext, size := h.size, os := h.os, tape := h.tape, output := h.output }
theorem Hv.perm {R w0 l0 l l' w} (h : Hv R w0 l0 l w) (p : l.Perm l') : Hv R w0 l0 l' w := by
  have hk : (keys l).Perm (keys l') := p.map _
  exact { nd := hk.nodup_iff.1 h.nd, own := fun b o hb => h.own b o (p.mem_iff.2 hb), rd := h.rd, dis := fun b o hb hm => h.dis b o hb (hk.mem_iff.2 hm), new := fun b hb => h.new b (hk.mem_iff.2 hb), ext := h.ext, size := h.size, os := h.os, tape := h.tape, output := h.output }
/-- Blocks are let go. -/
theorem Hv.drop {R w0 l0 l l' w} (h : Hv R w0 l0 (l ++ l') w) : Hv R w0 l0 l w := by
  have hk : keys (l ++ l') = keys l ++ keys l' := List.map_append ..
  have hn := h.nd
  rw [hk] at hn
  exact { nd := (List.nodup_append.1 hn).1, own := fun b o hb => h.own b o (List.mem_append_left _ hb), rd := h.rd, dis := fun b o hb hm => h.dis b o hb (by rw [hk]; exact List.mem_append_left _ hm), new := fun b hb => h.new b (by rw [hk]; exact List.mem_append_left _ hb), ext := h.ext, size := h.size, os := h.os, tape := h.tape, output := h.output }
theorem Hv.sub {R w0 l0 l l' w} (h : Hv R w0 l0 l w) (s : l'.Sublist l) : Hv R w0 l0 l' w := by
  have hk : (keys l').Sublist (keys l) := s.map _
  exact { nd := h.nd.sublist hk, own := fun b o hb => h.own b o (s.mem hb), rd := h.rd, dis := fun b o hb hm => h.dis b o hb (hk.mem hm), new := fun b hb => h.new b (hk.mem hb), ext := h.ext, size := h.size, os := h.os, tape := h.tape, output := h.output }
/-- A new block. -/
theorem Hv.alloc {R w0 l0 l w} (h : Hv R w0 l0 l w) (o : Obj) : Hv R w0 l0 ((w.heap.size, o) :: l) { w with heap := w.heap.push o } := by
  have hlt : ∀ {b o'}, w.heap[b]? = some o' → (w.heap.push o)[b]? = some o' := fun {b o'} hb => by
    rw [Array.getElem?_push_lt (lt_of_get hb)]; simpa [lt_of_get hb] using hb
  refine { nd := ?_, own := ?_, rd := fun b o' hb => hlt (h.rd b o' hb), dis := ?_, new := ?_, ext := ?_, size := ?_, os := h.os, tape := h.tape, output := h.output }
  · show (w.heap.size :: keys l).Nodup
    exact List.nodup_cons.2 ⟨fun hm => Nat.lt_irrefl _ (h.toRv.lt hm), h.nd⟩
  · intro b o' hb
    rcases List.mem_cons.1 hb with hb | hb
    · cases hb; simp
    · exact hlt (h.own b o' hb)
  · intro b o' hb hm
    rcases List.mem_cons.1 hm with hm | hm
    · exact absurd (lt_of_get (h.rd b o' hb)) (by rw [show b = w.heap.size from hm]; exact Nat.lt_irrefl _)
    · exact h.dis b o' hb hm
  · intro b hb
    rcases List.mem_cons.1 hb with rfl | hb
    · exact .inr h.size
    · exact h.new b hb
  · intro b hb hn
    have := h.size
    rw [← h.ext b hb hn]
    exact Array.getElem?_push_lt (by omega) |>.trans (by rw [Array.getElem?_eq_getElem (by omega)])
  · have := h.size
    show w0.heap.size ≤ (w.heap.push o).size
    simp; omega
/-- A block's object is another one. -/
theorem Hv.put {R w0 l0 A B w b o} (h : Hv R w0 l0 (A ++ (b, o) :: B) w) (o' : Obj) {w' : World} (hb : w'.heap[b]? = some o') (hne : ∀ b', b' ≠ b → w'.heap[b']? = w.heap[b']?)
    (hsz : w'.heap.size = w.heap.size) (hos : w'.os = w.os) (ht : w'.tape = w.tape) (hout : w'.output = w.output) : Hv R w0 l0 (A ++ (b, o') :: B) w' := by
  have hk : keys (A ++ (b, o') :: B) = keys (A ++ (b, o) :: B) := by simp [keys]
  have hbm : b ∈ keys (A ++ (b, o) :: B) := by simp [keys]
  have hn := h.nd
  have hA : ∀ o1, (b, o1) ∉ A := fun o1 hm => by
    have : keys (A ++ (b, o) :: B) = keys A ++ b :: keys B := by simp [keys]
    rw [this] at hn
    exact (List.nodup_append.1 hn).2.2 b (mem_keys hm) b (by simp) rfl
  have hB : ∀ o1, (b, o1) ∉ B := fun o1 hm => by
    have : keys (A ++ (b, o) :: B) = keys A ++ b :: keys B := by simp [keys]
    rw [this] at hn
    exact (List.nodup_cons.1 (List.nodup_append.1 hn).2.1).1 (mem_keys hm)
  refine { nd := by rw [hk]; exact h.nd, own := ?_, rd := ?_, dis := fun c o1 hc hm => h.dis c o1 hc (hk ▸ hm), new := fun c hc => h.new c (hk ▸ hc), ext := ?_, size := hsz ▸ h.size, os := hos.trans h.os, tape := ht.trans h.tape, output := hout.trans h.output }
  · intro c o1 hc
    rcases List.mem_append.1 hc with hc | hc
    · rw [hne c (fun e => hA o1 (e ▸ hc))]; exact h.own c o1 (List.mem_append_left _ hc)
    · rcases List.mem_cons.1 hc with hc | hc
      · cases hc; exact hb
      · rw [hne c (fun e => hB o1 (e ▸ hc))]; exact h.own c o1 (List.mem_append_right _ (List.mem_cons_of_mem _ hc))
  · intro c o1 hc
    rw [hne c (fun e => h.dis c o1 hc (e ▸ hbm))]; exact h.rd c o1 hc
  · intro c hc hcn
    rcases Nat.decEq c b with hcb | hcb
    · rw [hne c hcb]; exact h.ext c hc hcn
    · subst hcb
      rcases h.new c hbm with h1 | h1
      · exact absurd h1 hcn
      · omega

/-! ## What is to be shown -/
structure Cx where
  P : Program
  n : Nat
  R : Rd
  w0 : World
  l0 : Bl
def okD (n : Nat) (o : Oper) : Bool := match o.dst with
  | some d => Nat.blt d n
  | none => true
def okL (n : Nat) (l : List Oper) : Bool := l.all (okD n)
def okC (n : Nat) : Code → Bool
  | .region _ ops _ => okL n ops.toList
  | .seq a b | .cond _ a b => okC n a && okC n b
  | .block _ c | .loop c | .scope c => okC n c
  | .rangeFunc _ ps a b => ps.all (Nat.blt · n) && okC n a && okC n b
  | _ => true
abbrev Ps := Exit → Act → World → Prop
def Wo (c : Cx) (ops : Array Oper) (Q : Ps) (rest : List Oper) (e : Env) (l : Bl) : Prop :=
  okL c.n rest = true → ∀ w, Hv c.R c.w0 c.l0 l w → ∀ a, Ag c.n a e → wpList c.P ops Q rest a w
def Wc (c : Cx) (code : Code) (Q : Ps) (e : Env) (l : Bl) : Prop :=
  ∀ w, Hv c.R c.w0 c.l0 l w → ∀ a, Ag c.n a e → okC c.n code = true → code.wp c.P Q a w
def Dn (c : Cx) (Q : Ps) (x : Exit) (e : Env) (l : Bl) : Prop :=
  ∀ w, Hv c.R c.w0 c.l0 l w → ∀ a, Ag c.n a e → Q x a w
/-- One operation leaves a value, and the world as it is. -/
def Sp (c : Cx) (l : Bl) (o : Oper) (e : Env) (v : Value) : Prop :=
  ∀ w, Rv c.R l w → ∀ a, Ag c.n a e → (execOp a.eval o).run c.P w = .ok (.value v) w
def Sq (n : Nat) (P : Program) (y : Code) (Q : Ps) : Ps := Exit.then (fun a w => okC n y = true → y.wp P Q a w) Q

section
variable {c : Cx} {ops : Array Oper} {Q : Ps} {rest : List Oper} {e : Env} {l : Bl}

/-! ### Code -/
theorem seq {x y : Code} (h : Wc c x (Sq c.n c.P y Q) e l) : Wc c (.seq x y) Q e l := by
  intro w hv a ha hok
  simp only [okC, Bool.and_eq_true] at hok
  refine wp_seq (wp_mono (h w hv a ha hok.1) ?_)
  intro x a w hq
  cases x <;> first | exact hq hok.2 | exact hq
theorem reg {id : Nat} {os : List Oper} (h : Wo c os.toArray Q os e l) : Wc c (.region id os.toArray false) Q e l := by
  intro w hv a ha hok
  refine wp_region ?_
  have := wpOps_eq_wpList (P := c.P) (ops := os.toArray) (Q := Q) os 0 (by simp)
  rw [show List.range os.toArray.size = List.range' 0 os.length by simp [List.range_eq_range'], this]
  exact h (by simpa [okC] using hok) w hv a ha
theorem ifb {x : Operand} {a b : Code} {t : Bool} (hx : ev e x = some (.bool t)) (h1 : t = true → Wc c a Q e l) (h0 : t = false → Wc c b Q e l) : Wc c (.cond x a b) Q e l := by
  intro w hv ac ha hok
  simp only [okC, Bool.and_eq_true] at hok
  exact wp_cond_split (ha.eval hx) (fun ht => h1 ht w hv ac ha hok.1) (fun ht => h0 ht w hv ac ha hok.2)
theorem ifd {x : Operand} {a b : Code} {p : Prop} [Decidable p] (hx : ev e x = some (.bool (decide p))) (h1 : p → Wc c a Q e l) (h0 : ¬ p → Wc c b Q e l) : Wc c (.cond x a b) Q e l :=
  ifb hx (fun h => h1 (of_decide_eq_true h)) (fun h => h0 (of_decide_eq_false h))
theorem ifT {x : Operand} {a b : Code} (hx : ev e x = some (.bool true)) (h : Wc c a Q e l) : Wc c (.cond x a b) Q e l := ifb hx (fun _ => h) (fun h => by cases h)
theorem ifF {x : Operand} {a b : Code} (hx : ev e x = some (.bool false)) (h : Wc c b Q e l) : Wc c (.cond x a b) Q e l := ifb hx (fun h => by cases h) (fun _ => h)
theorem blk {id : Nat} {x : Code} (h : Wc c x (Exit.inBlock id Q) e l) : Wc c (.block id x) Q e l := fun w hv a ha hok => wp_block (h w hv a ha hok)
theorem skp (h : Dn c Q .normal e l) : Wc c .skip Q e l := fun w hv a ha _ => wp_skip (h w hv a ha)
theorem exi {id : Nat} (h : Dn c Q (.exit id) e l) : Wc c (.exit id) Q e l := fun w hv a ha _ => wp_exit (h w hv a ha)
theorem ret (h : Dn c Q .ret e l) : Wc c .ret Q e l := fun w hv a ha _ => wp_ret (h w hv a ha)
theorem enD (h : Dn c Q .normal e l) : Wo c ops Q [] e l := fun _ w hv a ha => h w hv a ha
theorem dSq {y : Code} (h : Wc c y Q e l) : Dn c (Sq c.n c.P y Q) .normal e l := h
theorem dSr {y : Code} (h : Dn c Q .ret e l) : Dn c (Sq c.n c.P y Q) .ret e l := h
theorem dSe {y : Code} {id} (h : Dn c Q (.exit id) e l) : Dn c (Sq c.n c.P y Q) (.exit id) e l := h
theorem dBn {id} (h : Dn c Q .normal e l) : Dn c (Exit.inBlock id Q) .normal e l := h
theorem dBr {id} (h : Dn c Q .ret e l) : Dn c (Exit.inBlock id Q) .ret e l := h
theorem dBe {id} (h : Dn c Q .normal e l) : Dn c (Exit.inBlock id Q) (.exit id) e l := fun w hv a ha => by simpa [Exit.inBlock] using h w hv a ha
theorem dBo {id id'} (hne : Nat.beq id' id = false) (h : Dn c Q (.exit id') e l) : Dn c (Exit.inBlock id Q) (.exit id') e l := fun w hv a ha => by
  have : id' ≠ id := fun h => by rw [h, Nat.beq_refl] at hne; cases hne
  simpa [Exit.inBlock, this] using h w hv a ha
/-- The end of a region, and on. -/
theorem en {y : Code} (h : Wc c y Q e l) : Wo c ops (Sq c.n c.P y Q) [] e l := enD (dSq h)
/-! ### Loops -/
def Lp (n : Nat) (R : Rd) (w0 : World) (l0 : Bl) (I : Nat → Env → Bl → Prop) (m : Nat) (Q : Ps) : Ps :=
  Exit.then (fun a w => ∃ m', m' < m ∧ ∃ e' l', Hv R w0 l0 l' w ∧ Ag n a e' ∧ I m' e' l') Q
theorem loop {x : Code} (I : Nat → Env → Bl → Prop) (m : Nat) (h0 : I m e l) (hr : ∀ m e l, I m e l → Wc c x (Lp c.n c.R c.w0 c.l0 I m Q) e l) : Wc c (.loop x) Q e l :=
  fun w hv a ha hok => wp_loop_ghost (fun m a w => ∃ e l, Hv c.R c.w0 c.l0 l w ∧ Ag c.n a e ∧ I m e l) m ⟨e, l, hv, ha, h0⟩
    fun m a w ⟨e, l, hv, ha, hI⟩ => hr m e l hI w hv a ha hok
theorem dLp {I : Nat → Env → Bl → Prop} {m m' : Nat} {e' : Env} (hm : m' < m) (hs : Sub e e') (hI : I m' e' l) : Dn c (Lp c.n c.R c.w0 c.l0 I m Q) .normal e l :=
  fun w hv a ha => ⟨m', hm, e', l, hv, ha.sub hs, hI⟩
theorem dLr {I : Nat → Env → Bl → Prop} {m : Nat} (h : Dn c Q .ret e l) : Dn c (Lp c.n c.R c.w0 c.l0 I m Q) .ret e l := h
theorem dLe {I : Nat → Env → Bl → Prop} {m : Nat} {id} (h : Dn c Q (.exit id) e l) : Dn c (Lp c.n c.R c.w0 c.l0 I m Q) (.exit id) e l := h
/-! ### Weakening -/
theorem cSub {x : Code} {e' : Env} (hs : Sub e e') (h : Wc c x Q e' l) : Wc c x Q e l := fun w hv a ha => h w hv a (ha.sub hs)
theorem cPerm {x : Code} {l' : Bl} (p : l.Perm l') (h : Wc c x Q e l') : Wc c x Q e l := fun w hv a ha => h w (hv.perm p) a ha
theorem oPerm {l' : Bl} (p : l.Perm l') (h : Wo c ops Q rest e l') : Wo c ops Q rest e l := fun ok w hv a ha => h ok w (hv.perm p) a ha
theorem cDrop {x : Code} {l' : Bl} (h : Wc c x Q e l) : Wc c x Q e (l ++ l') := fun w hv a ha => h w hv.drop a ha
theorem cSubl {x : Code} {l' : Bl} (s : l'.Sublist l) (h : Wc c x Q e l') : Wc c x Q e l := fun w hv a ha => h w (hv.sub s) a ha
theorem oSubl {l' : Bl} (s : l'.Sublist l) (h : Wo c ops Q rest e l') : Wo c ops Q rest e l := fun ok w hv a ha => h ok w (hv.sub s) a ha
/-- What the owned blocks tell may be used. -/
theorem cNd {x : Code} (h : (keys l).Nodup → Wc c x Q e l) : Wc c x Q e l := fun w hv a ha => h hv.nd w hv a ha
theorem oNd (h : (keys l).Nodup → Wo c ops Q rest e l) : Wo c ops Q rest e l := fun ok w hv a ha => h hv.nd ok w hv a ha
theorem cW {x : Code} (h : ∀ w, Hv c.R c.w0 c.l0 l w → Wc c x Q e l) : Wc c x Q e l := fun w hv a ha => h w hv w hv a ha
theorem oW (h : ∀ w, Hv c.R c.w0 c.l0 l w → Wo c ops Q rest e l) : Wo c ops Q rest e l := fun ok w hv a ha => h w hv ok w hv a ha

/-! ## Operations that leave the world as it is -/
variable {d : Option Tmp} {ty : TypeId} {pos : String} {aft : Array Edge} {g : Option (Nat × Bool)}
theorem okL_cons {n o rest} (h : okL n (o :: rest) = true) : okD n o = true ∧ okL n rest = true := by
  simpa [okL] using h
theorem okD_some {n d op ty pos aft g} (h : okD n ⟨some d, op, ty, pos, aft, g⟩ = true) : d < n := by
  simpa [okD] using h
theorem wpList_plain0 {P : Program} {o : Oper} {a : Act} {w : World} (hg : o.guard = none) (h : o.wp P a w (wpList P ops Q rest) Q) : wpList P ops Q (o :: rest) a w := by
  rw [wpList, if_pos (by simp [Region.wanted, hg])]
  exact .inl h
theorem q {v : Value} {op : Op} {d : Nat} (hs : Sp c l ⟨some d, op, ty, pos, aft, none⟩ e v) (h : Wo c ops Q rest ((d, v) :: e) l) : Wo c ops Q (⟨some d, op, ty, pos, aft, none⟩ :: rest) e l := by
  intro hok w hv a ha
  obtain ⟨h1, h2⟩ := okL_cons hok
  refine wpList_plain0 rfl ?_
  unfold Oper.wp
  rw [hs w hv.toRv a ha]
  exact h h2 w hv _ (ha.put (okD_some h1) v)
theorem qN {v : Value} {op : Op} (hs : Sp c l ⟨none, op, ty, pos, aft, none⟩ e v) (h : Wo c ops Q rest e l) : Wo c ops Q (⟨none, op, ty, pos, aft, none⟩ :: rest) e l := by
  intro hok w hv a ha
  obtain ⟨h1, h2⟩ := okL_cons hok
  refine wpList_plain0 rfl ?_
  unfold Oper.wp
  rw [hs w hv.toRv a ha]
  exact h h2 w hv _ (ha.putN v)
/-! ### Guards -/
theorem gT {op : Op} {k t : Nat} {want : Bool} (hd : (ops[k]?).bind (·.dst) = some t) (hg : gt e t = some (.bool want)) (h : Wo c ops Q (⟨d, op, ty, pos, aft, none⟩ :: rest) e l) :
    Wo c ops Q (⟨d, op, ty, pos, aft, some (k, want)⟩ :: rest) e l := by
  intro hok w hv a ha
  have hok' : okL c.n (⟨d, op, ty, pos, aft, none⟩ :: rest) = true := hok
  have h1 := h hok' w hv a ha
  have hy : yielded ops a.tmps k = some want := by simp [yielded, hd, ha.agree t _ hg]
  rw [wpList, if_pos (by simp [Region.wanted])] at h1
  rw [wpList, if_pos (by simp [Region.wanted, hy])]
  exact h1
theorem gF {op : Op} {k t d : Nat} {want b : Bool} (hd : (ops[k]?).bind (·.dst) = some t) (hg : gt e t = some (.bool b)) (hne : (b == want) = false) (h : Wo c ops Q rest ((d, undef) :: e) l) :
    Wo c ops Q (⟨some d, op, ty, pos, aft, some (k, want)⟩ :: rest) e l := by
  intro hok w hv a ha
  obtain ⟨h1, h2⟩ := okL_cons hok
  have hy : yielded ops a.tmps k = some b := by simp [yielded, hd, ha.agree t _ hg]
  rw [wpList, if_neg (by simpa [Region.wanted, hy] using hne)]
  exact h h2 w hv _ (ha.put (okD_some h1) _)
theorem gFN {op : Op} {k t : Nat} {want b : Bool} (hd : (ops[k]?).bind (·.dst) = some t) (hg : gt e t = some (.bool b)) (hne : (b == want) = false) (h : Wo c ops Q rest e l) :
    Wo c ops Q (⟨none, op, ty, pos, aft, some (k, want)⟩ :: rest) e l := by
  intro hok w hv a ha
  obtain ⟨h1, h2⟩ := okL_cons hok
  have hy : yielded ops a.tmps k = some b := by simp [yielded, hd, ha.agree t _ hg]
  rw [wpList, if_neg (by simpa [Region.wanted, hy] using hne)]
  exact h h2 w hv _ ha
/-- A slot's truth is decided. -/
theorem dec {t : Nat} {b : Bool} (hg : gt e t = some (.bool b)) (h1 : b = true → Wo c ops Q rest ((t, .bool true) :: e) l) (h0 : b = false → Wo c ops Q rest ((t, .bool false) :: e) l) : Wo c ops Q rest e l := by
  have hs : ∀ b', b = b' → Sub e ((t, .bool b') :: e) := fun b' hb s u hu => by
    rw [gt_cons] at hu
    by_cases hk : t = s
    · subst hk; rw [if_pos rfl] at hu; cases hu; rw [hg, hb]
    · rwa [if_neg hk] at hu
  cases hb : b
  · exact fun hok w hv a ha => h0 hb hok w hv a (ha.sub (hs _ hb))
  · exact fun hok w hv a ha => h1 hb hok w hv a (ha.sub (hs _ hb))
theorem decd {t : Nat} {p : Prop} [Decidable p] (hg : gt e t = some (.bool (decide p))) (h1 : p → Wo c ops Q rest ((t, .bool true) :: e) l) (h0 : ¬ p → Wo c ops Q rest ((t, .bool false) :: e) l) : Wo c ops Q rest e l :=
  dec hg (fun h => h1 (of_decide_eq_true h)) (fun h => h0 (of_decide_eq_false h))

/-! ### Slots, numbers, tests -/
section
variable {x y z : Operand} {v u : Value} {k : IntKind} {n m : Int} {T T' : TypeId}
theorem mv (h : ev e x = some v) : Sp c l ⟨d, .move x, ty, pos, aft, g⟩ e v := fun w hv a ha => by
  simp [execOp, ha.eval h, pure, Sem.run]
theorem asg (h : ev e x = some v) : Sp c l ⟨d, .assign x, ty, pos, aft, g⟩ e v := fun w hv a ha => by
  simp [execOp, ha.eval h, pure, Sem.run]
theorem pkT (h : ev e x = some (.bool true)) (hy : ev e y = some v) : Sp c l ⟨d, .pick x y z, ty, pos, aft, g⟩ e v := fun w hv a ha => by
  simp [execOp, ha.eval h, ha.eval hy, asBool, pure, bind, Sem.bind, Sem.run]
theorem pkF (h : ev e x = some (.bool false)) (hz : ev e z = some v) : Sp c l ⟨d, .pick x y z, ty, pos, aft, g⟩ e v := fun w hv a ha => by
  simp [execOp, ha.eval h, ha.eval hz, asBool, pure, bind, Sem.bind, Sem.run]
theorem nck {p : Addr} (h : ev e x = some (.pointer (some p))) : Sp c l ⟨d, .nilCheck x, ty, pos, aft, g⟩ e (.pointer (some p)) := fun w hv a ha => by
  simp [execOp, ha.eval h, pure, Sem.run]
theorem bAdd (hx : ev e x = some (.int k n)) (hy : ev e y = some (.int k m)) : Sp c l ⟨d, .binOp .add T x y T', ty, pos, aft, g⟩ e (.int k (k.wrap (n + m))) := fun w hv a ha => by
  simp [execOp, ha.eval hx, ha.eval hy, eqGuard, binOp, Op.intArith, pure, bind, Sem.bind, Sem.run]
theorem bSub (hx : ev e x = some (.int k n)) (hy : ev e y = some (.int k m)) : Sp c l ⟨d, .binOp .sub T x y T', ty, pos, aft, g⟩ e (.int k (k.wrap (n - m))) := fun w hv a ha => by
  simp [execOp, ha.eval hx, ha.eval hy, eqGuard, binOp, Op.intArith, pure, bind, Sem.bind, Sem.run]
theorem bMul (hx : ev e x = some (.int k n)) (hy : ev e y = some (.int k m)) : Sp c l ⟨d, .binOp .mul T x y T', ty, pos, aft, g⟩ e (.int k (k.wrap (n * m))) := fun w hv a ha => by
  simp [execOp, ha.eval hx, ha.eval hy, eqGuard, binOp, Op.intArith, pure, bind, Sem.bind, Sem.run]
theorem wrap_i64 {n : Int} (h : -9223372036854775808 ≤ n ∧ n ≤ 9223372036854775807) : IntKind.i64.wrap n = n := IntWalk.i64_in n h
/-- A sum that fits. -/
theorem bAddi (hx : ev e x = some (.int .i64 n)) (hy : ev e y = some (.int .i64 m)) (h : -9223372036854775808 ≤ n + m ∧ n + m ≤ 9223372036854775807) : Sp c l ⟨d, .binOp .add T x y T', ty, pos, aft, g⟩ e (.int .i64 (n + m)) := by
  have := bAdd (c := c) (l := l) (T := T) (T' := T') (ty := ty) (pos := pos) (aft := aft) (g := g) (d := d) hx hy; rwa [wrap_i64 h] at this
theorem bSubi (hx : ev e x = some (.int .i64 n)) (hy : ev e y = some (.int .i64 m)) (h : -9223372036854775808 ≤ n - m ∧ n - m ≤ 9223372036854775807) : Sp c l ⟨d, .binOp .sub T x y T', ty, pos, aft, g⟩ e (.int .i64 (n - m)) := by
  have := bSub (c := c) (l := l) (T := T) (T' := T') (ty := ty) (pos := pos) (aft := aft) (g := g) (d := d) hx hy; rwa [wrap_i64 h] at this
theorem bMuli (hx : ev e x = some (.int .i64 n)) (hy : ev e y = some (.int .i64 m)) (h : -9223372036854775808 ≤ n * m ∧ n * m ≤ 9223372036854775807) : Sp c l ⟨d, .binOp .mul T x y T', ty, pos, aft, g⟩ e (.int .i64 (n * m)) := by
  have := bMul (c := c) (l := l) (T := T) (T' := T') (ty := ty) (pos := pos) (aft := aft) (g := g) (d := d) hx hy; rwa [wrap_i64 h] at this
theorem bRem (hx : ev e x = some (.int k n)) (hy : ev e y = some (.int k m)) (h : m ≠ 0) : Sp c l ⟨d, .binOp .rem T x y T', ty, pos, aft, g⟩ e (.int k (n.tmod m)) := fun w hv a ha => by
  simp [execOp, ha.eval hx, ha.eval hy, eqGuard, binOp, Op.intDiv, h, pure, bind, Sem.bind, Sem.run]
theorem bQuo (hx : ev e x = some (.int k n)) (hy : ev e y = some (.int k m)) (h : m ≠ 0) : Sp c l ⟨d, .binOp .quo T x y T', ty, pos, aft, g⟩ e (.int k (k.wrap (n.tdiv m))) := fun w hv a ha => by
  simp [execOp, ha.eval hx, ha.eval hy, eqGuard, binOp, Op.intDiv, h, pure, bind, Sem.bind, Sem.run]
theorem bLss (hx : ev e x = some (.int k n)) (hy : ev e y = some (.int k m)) : Sp c l ⟨d, .binOp .lss T x y T', ty, pos, aft, g⟩ e (.bool (decide (n < m))) := fun w hv a ha => by
  simp [execOp, ha.eval hx, ha.eval hy, eqGuard, binOp, Op.intCmp, pure, bind, Sem.bind, Sem.run]
theorem bLeq (hx : ev e x = some (.int k n)) (hy : ev e y = some (.int k m)) : Sp c l ⟨d, .binOp .leq T x y T', ty, pos, aft, g⟩ e (.bool (decide (n ≤ m))) := fun w hv a ha => by
  simp [execOp, ha.eval hx, ha.eval hy, eqGuard, binOp, Op.intCmp, pure, bind, Sem.bind, Sem.run]
theorem bGtr (hx : ev e x = some (.int k n)) (hy : ev e y = some (.int k m)) : Sp c l ⟨d, .binOp .gtr T x y T', ty, pos, aft, g⟩ e (.bool (decide (m < n))) := fun w hv a ha => by
  simp [execOp, ha.eval hx, ha.eval hy, eqGuard, binOp, Op.intCmp, pure, bind, Sem.bind, Sem.run]
theorem bGeq (hx : ev e x = some (.int k n)) (hy : ev e y = some (.int k m)) : Sp c l ⟨d, .binOp .geq T x y T', ty, pos, aft, g⟩ e (.bool (decide (m ≤ n))) := fun w hv a ha => by
  simp [execOp, ha.eval hx, ha.eval hy, eqGuard, binOp, Op.intCmp, pure, bind, Sem.bind, Sem.run]
theorem bEql (hx : ev e x = some (.int k n)) (hy : ev e y = some (.int k m)) : Sp c l ⟨d, .binOp .eql T x y T', ty, pos, aft, g⟩ e (.bool (decide (n = m))) := fun w hv a ha => by
  simp [execOp, ha.eval hx, ha.eval hy, eqGuard, binOp, Op.intCmp, pure, bind, Sem.bind, Sem.run]
  exact Bool.beq_eq_decide_eq ..
theorem bNeq (hx : ev e x = some (.int k n)) (hy : ev e y = some (.int k m)) : Sp c l ⟨d, .binOp .neq T x y T', ty, pos, aft, g⟩ e (.bool (decide (n ≠ m))) := fun w hv a ha => by
  simp [execOp, ha.eval hx, ha.eval hy, eqGuard, binOp, Op.intCmp, pure, bind, Sem.bind, Sem.run]
  by_cases h : n = m <;> simp [h]
theorem bNot {b : Bool} (hx : ev e x = some (.bool b)) : Sp c l ⟨d, .unOp .not T x, ty, pos, aft, g⟩ e (.bool (!b)) := fun w hv a ha => by
  simp [execOp, ha.eval hx, Op.unary, pure, bind, Sem.bind, Sem.run]
theorem bNotd {p : Prop} [Decidable p] (hx : ev e x = some (.bool (decide p))) : Sp c l ⟨d, .unOp .not T x, ty, pos, aft, g⟩ e (.bool (decide (¬ p))) := by
  have := bNot (c := c) (l := l) (T := T) (ty := ty) (pos := pos) (aft := aft) (g := g) (d := d) hx
  rwa [← decide_not] at this
/-- A type's underlying one. -/
def Un (P : Program) (T : TypeId) (D : TypeDesc) : Prop := P.underlying T = some D
theorem equalS {P : Program} (T : TypeId) (x y : Value) : Op.equal T x y = Op.equalIn (9999 + 1) T x y := rfl
theorem run_eqb {P : Program} {T} {b b' : Bool} (hT : P.underlying T = some .bool) (w) : (Op.equal T (.bool b) (.bool b')).run P w = .ok (decide (b = b')) w := by
  rw [equalS (P := P), Op.equalIn]
  simp [underlying, program, hT, pure, bind, Sem.bind, Sem.run]
  cases b <;> cases b' <;> rfl
theorem run_pnil {P : Program} {T E} {p : Option Addr} (hT : P.underlying T = some (.pointer E)) (w) : (Op.equal T (.pointer p) (.pointer none)).run P w = .ok p.isNone w := by
  rw [equalS (P := P), Op.equalIn]
  cases p <;> simp [underlying, program, hT, pure, bind, Sem.bind, Sem.run]
theorem run_mnil {P : Program} {T K E} {p : Option Nat} (hT : P.underlying T = some (.map K E)) (w) : (Op.equal T (.map p) (.map none)).run P w = .ok p.isNone w := by
  rw [equalS (P := P), Op.equalIn]
  cases p <;> simp [underlying, program, hT, pure, bind, Sem.bind, Sem.run]
theorem run_snil {P : Program} {T E} {p : Option Addr} {m n : Nat} (hT : P.underlying T = some (.slice E)) (w) : (Op.equal T (.slice p m n) (.slice none 0 0)).run P w = .ok p.isNone w := by
  rw [equalS (P := P), Op.equalIn]
  cases p <;> simp [underlying, program, hT, pure, bind, Sem.bind, Sem.run]
/-- An '==' or '!=' whose operands are no numbers, strings, structs. -/
def plainV : Value → Bool
  | .bool _ | .pointer _ | .map _ | .slice .. => true
  | _ => false
theorem eqS {b : Bool} (hp : plainV u = true) (hx : ev e x = some u) (hy : ev e y = some v) (h : ∀ w, (Op.equal T u v).run c.P w = .ok b w) : Sp c l ⟨d, .binOp .eql T x y T', ty, pos, aft, g⟩ e (.bool b) := fun w hv a ha => by
  have h1 := ha.eval hx; have h2 := ha.eval hy
  unfold execOp
  simp only [h1, h2]
  have hg : eqGuard .eql T x y u v = pure () := by cases u <;> first | (cases v <;> rfl) | (simp [plainV] at hp)
  rw [hg]
  have hb : binOp .eql T u v = (do pure (.bool (← Op.equal T u v))) := by cases u <;> first | (cases v <;> rfl) | (simp [plainV] at hp)
  rw [hb]
  simp [h w]
theorem neS {b : Bool} (hp : plainV u = true) (hx : ev e x = some u) (hy : ev e y = some v) (h : ∀ w, (Op.equal T u v).run c.P w = .ok b w) : Sp c l ⟨d, .binOp .neq T x y T', ty, pos, aft, g⟩ e (.bool (!b)) := fun w hv a ha => by
  have h1 := ha.eval hx; have h2 := ha.eval hy
  unfold execOp
  simp only [h1, h2]
  have hg : eqGuard .neq T x y u v = pure () := by cases u <;> first | (cases v <;> rfl) | (simp [plainV] at hp)
  rw [hg]
  have hb : binOp .neq T u v = (do pure (.bool (!(← Op.equal T u v)))) := by cases u <;> first | (cases v <;> rfl) | (simp [plainV] at hp)
  rw [hb]
  simp [h w]
/-! ### Strings -/
theorem toList_eq {s t : ByteArray} : (s.toList == t.toList) = decide (s = t) := by
  by_cases h : s = t
  · subst h; simp
  · have : s.toList ≠ t.toList := fun h' => h (by
      rw [ByteArray.toList_eq, ByteArray.toList_eq] at h'
      exact ByteArray.ext (Array.toList_inj.1 h'))
    simp [h, this]
theorem sEql {s t : ByteArray} (hx : ev e x = some (.string s)) (hy : ev e y = some (.string t)) : Sp c l ⟨d, .binOp .eql T x y T', ty, pos, aft, g⟩ e (.bool (decide (s = t))) := fun w hv a ha => by
  rw [← toList_eq]; simp [execOp, ha.eval hx, ha.eval hy, eqGuard, binOp, Op.stringOp, pure, bind, Sem.bind, Sem.run]
theorem sNeq {s t : ByteArray} (hx : ev e x = some (.string s)) (hy : ev e y = some (.string t)) : Sp c l ⟨d, .binOp .neq T x y T', ty, pos, aft, g⟩ e (.bool (decide (s ≠ t))) := fun w hv a ha => by
  rw [decide_not, ← toList_eq]; simp [execOp, ha.eval hx, ha.eval hy, eqGuard, binOp, Op.stringOp, pure, bind, Sem.bind, Sem.run]
/-- 'a < b' of strings. -/
def sLt (s t : ByteArray) : Bool := Op.bytesLess s.data.toList t.data.toList
theorem sLss {s t : ByteArray} (hx : ev e x = some (.string s)) (hy : ev e y = some (.string t)) : Sp c l ⟨d, .binOp .lss T x y T', ty, pos, aft, g⟩ e (.bool (sLt s t)) := fun w hv a ha => by
  unfold sLt; rw [← ByteArray.toList_eq, ← ByteArray.toList_eq]; simp [execOp, ha.eval hx, ha.eval hy, eqGuard, binOp, Op.stringOp, pure, bind, Sem.bind, Sem.run]
theorem sLeq {s t : ByteArray} (hx : ev e x = some (.string s)) (hy : ev e y = some (.string t)) : Sp c l ⟨d, .binOp .leq T x y T', ty, pos, aft, g⟩ e (.bool (sLt s t || decide (s = t))) := fun w hv a ha => by
  unfold sLt; rw [← toList_eq, ← ByteArray.toList_eq, ← ByteArray.toList_eq]; simp [execOp, ha.eval hx, ha.eval hy, eqGuard, binOp, Op.stringOp, pure, bind, Sem.bind, Sem.run]
theorem sGtr {s t : ByteArray} (hx : ev e x = some (.string s)) (hy : ev e y = some (.string t)) : Sp c l ⟨d, .binOp .gtr T x y T', ty, pos, aft, g⟩ e (.bool (!(sLt s t || decide (s = t)))) := fun w hv a ha => by
  unfold sLt; rw [← toList_eq, ← ByteArray.toList_eq, ← ByteArray.toList_eq]; simp [execOp, ha.eval hx, ha.eval hy, eqGuard, binOp, Op.stringOp, pure, bind, Sem.bind, Sem.run]
theorem sGeq {s t : ByteArray} (hx : ev e x = some (.string s)) (hy : ev e y = some (.string t)) : Sp c l ⟨d, .binOp .geq T x y T', ty, pos, aft, g⟩ e (.bool (!sLt s t)) := fun w hv a ha => by
  unfold sLt; rw [← ByteArray.toList_eq, ← ByteArray.toList_eq]; simp [execOp, ha.eval hx, ha.eval hy, eqGuard, binOp, Op.stringOp, pure, bind, Sem.bind, Sem.run]
theorem sAdd {s t : ByteArray} (hx : ev e x = some (.string s)) (hy : ev e y = some (.string t)) (h : s.size + t.size ≤ 9223372036854775807) : Sp c l ⟨d, .binOp .add T x y T', ty, pos, aft, g⟩ e (.string (s ++ t)) := fun w hv a ha => by
  have h' : ¬ (((s.size + t.size : Nat) : Int) > IntKind.i64.max) := by
    have : IntKind.i64.max = 9223372036854775807 := by rfl
    rw [this]; omega
  simp only [execOp, ha.eval hx, ha.eval hy, eqGuard, binOp, Op.stringOp]
  rw [if_neg h']
  simp [pure, bind, Sem.bind, Sem.run]
theorem sIx {s : ByteArray} {n : Int} {k : IntKind} {u : UInt8} (hT : c.P.underlying T = some .string) (hx : ev e x = some (.string s)) (hy : ev e y = some (.int k n)) (h0 : 0 ≤ n) (hu : s.data.toList[n.toNat]? = some u) : Sp c l ⟨d, .index T x y, ty, pos, aft, g⟩ e (.int .u8 u.toNat) := fun w hv a ha => by
  have hu' : s[n.toNat]? = some u := by
    rw [Array.getElem?_toList] at hu
    obtain ⟨h1, h2⟩ := Array.getElem?_eq_some_iff.1 hu
    have h3 : n.toNat < s.size := h1
    rw [getElem?_pos s n.toNat h3]
    exact congrArg some h2
  simp [execOp, ha.eval hx, ha.eval hy, Instr.index, asIntOf, underlying, program, hT, h0, hu', pure, bind, Sem.bind, Sem.run]
/-! ### len -/
theorem lnS {s : ByteArray} (hT : c.P.underlying T = some .string) (hx : ev e x = some (.string s)) : Sp c l ⟨d, .call ⟨.builtin .len, #[x], #[T]⟩, ty, pos, aft, g⟩ e (.int .i64 s.size) := fun w hv a ha => by
  simp [execOp, resolve, invoke, builtin, ha.eval hx, Builtin.len_, underlying, program, hT, goInt, pure, bind, Sem.bind, Sem.run]
theorem lnL {E : TypeId} {p : Option Addr} {n m : Nat} (hT : c.P.underlying T = some (.slice E)) (hx : ev e x = some (.slice p n m)) : Sp c l ⟨d, .call ⟨.builtin .len, #[x], #[T]⟩, ty, pos, aft, g⟩ e (.int .i64 n) := fun w hv a ha => by
  simp [execOp, resolve, invoke, builtin, ha.eval hx, Builtin.len_, underlying, program, hT, goInt, pure, bind, Sem.bind, Sem.run]
theorem lnM {K E : TypeId} {m : Nat} {es : Array MapEntry} {ck : Nat} (hT : c.P.underlying T = some (.map K E)) (hx : ev e x = some (.map (some m))) (hm : Has c.R l m (.map es ck)) : Sp c l ⟨d, .call ⟨.builtin .len, #[x], #[T]⟩, ty, pos, aft, g⟩ e (.int .i64 es.size) := fun w hv a ha => by
  simp [execOp, resolve, invoke, builtin, ha.eval hx, Builtin.len_, underlying, program, hT, goInt, pure, bind, Sem.bind, Sem.run, getObj, hv.get hm]
/-! ### tuples, structs by value -/
theorem ext {vs : Array Value} {i : Nat} (hx : ev e x = some (.tuple vs)) (hi : vs[i]? = some v) : Sp c l ⟨d, .extract x i, ty, pos, aft, g⟩ e v := fun w hv a ha => by
  simp [execOp, ha.eval hx, Instr.extract, hi, pure, bind, Sem.bind, Sem.run]
def NAg (P : Program) (T : TypeId) : Prop := ∀ w, (isAgg T).run P w = .ok false w
def AgT (P : Program) (T : TypeId) (n : Nat) : Prop := ∀ w, (isAgg T).run P w = .ok true w ∧ (sizeOf T).run P w = .ok n w
def Sz (P : Program) (T : TypeId) (n : Nat) : Prop := ∀ w, (sizeOf T).run P w = .ok n w
def Zr (P : Program) (T : TypeId) (z : Value) : Prop := ∀ w, (zeroValue T).run P w = .ok z w
/-- n elements from off on. -/
inductive Tk : Nat → Nat → List Value → List Value → Prop
  | z {cs} : Tk 0 0 cs []
  | t {n x cs vs} : Tk 0 n cs vs → Tk 0 (n + 1) (x :: cs) (x :: vs)
  | d {off n x cs vs} : Tk off n cs vs → Tk (off + 1) n (x :: cs) vs
theorem Tk.eq {off n cs vs} (h : Tk off n cs vs) : (cs.drop off).take n = vs ∧ off + n ≤ cs.length := by
  induction h with
  | z => simp
  | t h ih => simp_all
  | d h ih => obtain ⟨h1, h2⟩ := ih; exact ⟨by simpa using h1, by simp; omega⟩
theorem Tk.any {off n : Nat} {cs : List Value} (h : off + n ≤ cs.length) : Tk off n cs ((cs.drop off).take n) := by
  induction cs generalizing off n with
  | nil => simp at h; obtain ⟨rfl, rfl⟩ := h; exact .z
  | cons x cs ih =>
    cases off with
    | zero => cases n with
      | zero => exact .z
      | succ n => exact .t (by simpa using ih (off := 0) (n := n) (by simp at h; omega))
    | succ off => exact .d (by simpa using ih (off := off) (n := n) (by simp at h; omega))
theorem fd1 {fs : Array Field} {f : Field} {cs : Array Value} {i : Nat} (hT : c.P.underlying T = some (.struct fs)) (hf : fs[i]? = some f) (hn : NAg c.P f.type) (hx : ev e x = some (.agg cs)) (hv' : cs[f.offset]? = some v) : Sp c l ⟨d, .field T x i, ty, pos, aft, g⟩ e v := fun w hv a ha => by
  simp [execOp, ha.eval hx, Instr.field, underlying, program, hT, hf, asAgg, part, hn w, hv', pure, bind, Sem.bind, Sem.run, Sem.run_bind']
theorem fdA {fs : Array Field} {f : Field} {cs vs : List Value} {i n : Nat} (hT : c.P.underlying T = some (.struct fs)) (hf : fs[i]? = some f) (hn : AgT c.P f.type n) (hx : ev e x = some (.agg cs.toArray)) (hv' : Tk f.offset n cs vs) : Sp c l ⟨d, .field T x i, ty, pos, aft, g⟩ e (.agg vs.toArray) := fun w hv a ha => by
  have : (cs.toArray.extract f.offset (f.offset + n)) = vs.toArray := by
    rw [← hv'.eq.1]; simp [List.extract_toArray, List.extract_eq_take_drop]
  simp [execOp, ha.eval hx, Instr.field, underlying, program, hT, hf, asAgg, part, hn w, this, pure, bind, Sem.bind, Sem.run, Sem.run_bind']
  exact hv'.eq.1
/-- An array's element. -/
theorem ixA1 {E : TypeId} {cs : List Value} {len : Nat} {i : Int} {k : IntKind} (hT : c.P.underlying T = some (.array len E)) (hn : NAg c.P E) (hs : Sz c.P E 1) (hx : ev e x = some (.agg cs.toArray)) (hy : ev e y = some (.int k i)) (h0 : 0 ≤ i) (h1 : i < len) (hv' : cs[i.toNat]? = some v) : Sp c l ⟨d, .index T x y, ty, pos, aft, g⟩ e v := fun w hv a ha => by
  simp [execOp, ha.eval hx, ha.eval hy, Instr.index, asIntOf, underlying, program, hT, h0, h1, part, hn w, hs w, hv', pure, bind, Sem.bind, Sem.run, Sem.run_bind']
theorem ixAA {E : TypeId} {cs vs : List Value} {len n : Nat} {i : Int} {k : IntKind} (hT : c.P.underlying T = some (.array len E)) (hn : AgT c.P E n) (hx : ev e x = some (.agg cs.toArray)) (hy : ev e y = some (.int k i)) (h0 : 0 ≤ i) (h1 : i < len) (hv' : Tk (i.toNat * n) n cs vs) : Sp c l ⟨d, .index T x y, ty, pos, aft, g⟩ e (.agg vs.toArray) := fun w hv a ha => by
  have : (cs.toArray.extract (i.toNat * n) (i.toNat * n + n)) = vs.toArray := by
    rw [← hv'.eq.1]; simp [List.extract_toArray, List.extract_eq_take_drop]
  simp [execOp, ha.eval hx, ha.eval hy, Instr.index, asIntOf, underlying, program, hT, h0, h1, part, hn w, this, pure, bind, Sem.bind, Sem.run, Sem.run_bind']
  exact hv'.eq.1
/-- A struct put together. -/
def Bd (P : Program) (T : TypeId) (parts : List (Nat × Value)) (r : List Value) : Prop := ∀ w, (Instr.build T parts.toArray).run P w = .ok (.agg r.toArray) w
def evs (e : Env) : List (Nat × Operand) → Option (List (Nat × Value))
  | [] => some []
  | (i, x) :: r => match ev e x, evs e r with
    | some v, some vs => some ((i, v) :: vs)
    | _, _ => none
theorem evs_eq {n a} : ∀ {ps : List (Nat × Operand)} {vs}, Ag n a e → evs e ps = some vs → ps.map (fun (i, x) => (i, a.eval x)) = vs
  | [], _, _, h => by cases h; rfl
  | (i, x) :: r, vs, ha, h => by
    rw [evs] at h
    cases h1 : ev e x with
    | none => simp [h1] at h
    | some v => cases h2 : evs e r with
      | none => simp [h1, h2] at h
      | some us =>
        simp [h1, h2] at h; subst h
        simp [ha.eval h1, ← evs_eq ha h2]
theorem bld {ps : List (Nat × Operand)} {vs : List (Nat × Value)} {r : List Value} (hp : evs e ps = some vs) (hb : Bd c.P T vs r) : Sp c l ⟨d, .build T ps.toArray, ty, pos, aft, g⟩ e (.agg r.toArray) := fun w hv a ha => by
  have h1 := evs_eq ha hp
  have h2 : (ps.toArray.map fun (i, x) => (i, a.eval x)) = vs.toArray := by simpa using congrArg List.toArray h1
  unfold execOp; simp only [h2, Sem.run_bind, hb w]; rfl
/-! ### Addresses -/
/-- The place of a field. -/
def Fo (P : Program) (S : TypeId) (i off : Nat) : Prop := ∀ b o w, (Instr.fieldAt S (.pointer (some ⟨b, o, none⟩)) i).run P w = .ok (.pointer (some ⟨b, o + off, none⟩)) w
theorem fa {S : TypeId} {i off b o : Nat} (hf : Fo c.P S i off) (hx : ev e x = some (.pointer (some ⟨b, o, none⟩))) : Sp c l ⟨d, .fieldAddr S x i, ty, pos, aft, g⟩ e (.pointer (some ⟨b, o + off, none⟩)) := fun w hv a ha => by
  unfold execOp; simp only [ha.eval hx, Sem.run_bind, hf b o w]; rfl
theorem add_none (b o n : Nat) : Addr.add ⟨b, o, none⟩ n = ⟨b, o + n, none⟩ := by
  unfold Addr.add; split
  · subst n; rfl
  · rfl
theorem ia {E : TypeId} {b o len cp sz : Nat} {i : Int} {k : IntKind} (hT : c.P.underlying T = some (.slice E)) (hs : Sz c.P E sz) (hx : ev e x = some (.slice (some ⟨b, o, none⟩) len cp)) (hy : ev e y = some (.int k i)) (h0 : 0 ≤ i) (h1 : i < len) :
    Sp c l ⟨d, .indexAddr T x y, ty, pos, aft, g⟩ e (.pointer (some ⟨b, o + i.toNat * sz, none⟩)) := fun w hv a ha => by
  simp [execOp, ha.eval hx, ha.eval hy, Instr.indexAt, asIntOf, underlying, program, hT, h0, h1, hs w, add_none, pure, bind, Sem.bind, Sem.run, Sem.run_bind']
theorem iaA {E : TypeId} {b o len sz : Nat} {i : Int} {k : IntKind} (hT : c.P.underlying T = some (.array len E)) (hs : Sz c.P E sz) (hx : ev e x = some (.pointer (some ⟨b, o, none⟩))) (hy : ev e y = some (.int k i)) (h0 : 0 ≤ i) (h1 : i < len) :
    Sp c l ⟨d, .indexAddr T x y, ty, pos, aft, g⟩ e (.pointer (some ⟨b, o + i.toNat * sz, none⟩)) := fun w hv a ha => by
  simp [execOp, ha.eval hx, ha.eval hy, Instr.indexAt, Instr.sureAddr, asIntOf, underlying, program, hT, h0, h1, hs w, add_none, pure, bind, Sem.bind, Sem.run, Sem.run_bind']
/-! ### Loads -/
theorem cell_of {w : World} {b off : Nat} {cs : List Value} {E fz} (h : w.heap[b]? = some (.cells cs.toArray E fz)) (hc : cs[off]? = some v) : w.cell? ⟨b, off, none⟩ = some v := by
  simp [World.cell?, h, hc]
theorem ld {b off : Nat} {cs : List Value} {E fz} (hn : NAg c.P T) (hx : ev e x = some (.pointer (some ⟨b, off, none⟩))) (hh : Has c.R l b (.cells cs.toArray E fz)) (hc : cs[off]? = some v) : Sp c l ⟨d, .load T x, ty, pos, aft, g⟩ e v := fun w hv a ha => by
  simp [execOp, ha.eval hx, Instr.loadAt, Instr.sureAddr, loadVar, hn w, load, cell_of (hv.get hh) hc, pure, bind, Sem.bind, Sem.run, Sem.run_bind']
theorem loadFrom {P : Program} {w : World} {b : Nat} {cs : List Value} {E fz} (h : w.heap[b]? = some (.cells cs.toArray E fz)) : ∀ (n o i : Nat) (acc : Array Value), o + i + n ≤ cs.length →
    (loadCellsFrom ⟨b, o, none⟩ i n acc).run P w = .ok (acc ++ ((cs.drop (o + i)).take n).toArray) w
  | 0, o, i, acc, _ => by simp [loadCellsFrom, pure, Sem.run]
  | n + 1, o, i, acc, hle => by
    have hlt : o + i < cs.length := by omega
    have hc : cs[o + i]? = some cs[o + i] := List.getElem?_eq_getElem hlt
    rw [loadCellsFrom]
    simp only [add_none, Sem.run_bind, load, Sem.run, cell_of h hc, Result.andThen_ok]
    rw [loadFrom h n o (i + 1) _ (by omega)]
    rw [List.drop_eq_getElem_cons hlt]
    simp [Nat.add_assoc]
theorem ldA {b off n : Nat} {cs vs : List Value} {E fz} (hn : AgT c.P T n) (hx : ev e x = some (.pointer (some ⟨b, off, none⟩))) (hh : Has c.R l b (.cells cs.toArray E fz)) (hc : Tk off n cs vs) : Sp c l ⟨d, .load T x, ty, pos, aft, g⟩ e (.agg vs.toArray) := fun w hv a ha => by
  have h1 := loadFrom (P := c.P) (hv.get hh) n off 0 #[] (by have := hc.eq.2; omega)
  rw [Nat.add_zero, hc.eq.1] at h1
  unfold execOp
  simp only [ha.eval hx, Instr.loadAt, Instr.sureAddr, loadVar, Sem.run_bind, (hn w).1, (hn w).2, Result.andThen_ok, loadCells, h1, if_true, pure, Sem.run]
  simp
end

/-! ## Operations that make or write memory -/
section
variable {x y z : Operand} {v u : Value} {k : IntKind} {T T' : TypeId}
theorem wp_new {P : Program} {o : Oper} {a : Act} {w w' : World} {v : Value} (hg : o.guard = none) (hr : (execOp a.eval o).run P w = .ok (.value v) w') (h : wpList P ops Q rest (a.put o.dst v) w') : wpList P ops Q (o :: rest) a w := by
  refine wpList_plain0 hg ?_
  unfold Oper.wp; rw [hr]; exact h
theorem wp_skp {P : Program} {o : Oper} {a : Act} {w w' : World} (hg : o.guard = none) (hr : (execOp a.eval o).run P w = .ok .skip w') (h : wpList P ops Q rest (a.put o.dst undef) w') : wpList P ops Q (o :: rest) a w := by
  refine wpList_plain0 hg ?_
  unfold Oper.wp; rw [hr]; exact h
/-- An operation that hands back a value, and may change memory: its run, from whatever world there is. -/
theorem eff {op : Op} {d : Nat} (h : ∀ w, Hv c.R c.w0 c.l0 l w → ∀ a, Ag c.n a e → ∃ v w' l', (execOp a.eval ⟨some d, op, ty, pos, aft, none⟩).run c.P w = .ok (.value v) w' ∧ Hv c.R c.w0 c.l0 l' w' ∧ Wo c ops Q rest ((d, v) :: e) l') :
    Wo c ops Q (⟨some d, op, ty, pos, aft, none⟩ :: rest) e l := by
  intro hok w hv a ha
  obtain ⟨h1, h2⟩ := okL_cons hok
  obtain ⟨v, w', l', hr, hv', hw⟩ := h w hv a ha
  exact wp_new rfl hr (hw h2 w' hv' _ (ha.put (okD_some h1) v))
theorem efS {op : Op} (h : ∀ w, Hv c.R c.w0 c.l0 l w → ∀ a, Ag c.n a e → ∃ w' l', (execOp a.eval ⟨none, op, ty, pos, aft, none⟩).run c.P w = .ok .skip w' ∧ Hv c.R c.w0 c.l0 l' w' ∧ Wo c ops Q rest e l') :
    Wo c ops Q (⟨none, op, ty, pos, aft, none⟩ :: rest) e l := by
  intro hok w hv a ha
  obtain ⟨h1, h2⟩ := okL_cons hok
  obtain ⟨w', l', hr, hv', hw⟩ := h w hv a ha
  exact wp_skp rfl hr (hw h2 w' hv' _ (ha.putN _))
theorem al {d : Nat} {v : Value} {cs : List Value} (hz : Zr c.P T v) (hc : v.cells = cs.toArray) (h : ∀ b, Wo c ops Q rest ((d, .pointer (some ⟨b, 0, none⟩)) :: e) ((b, .cells cs.toArray T (0, 0)) :: l)) :
    Wo c ops Q (⟨some d, .alloc T, ty, pos, aft, none⟩ :: rest) e l :=
  eff fun w hv a ha => ⟨_, _, _, by
    simp [execOp, Instr.alloc, hz w, newVar, newRow, newObj, hc, pure, bind, Sem.bind, Sem.run, Sem.run_bind']; first | done | exact ⟨rfl, rfl⟩, hv.alloc _, h _⟩
theorem bx {d : Nat} {v : Value} {cs : List Value} (hx : ev e x = some v) (hc : v.cells = cs.toArray) (h : ∀ b, Wo c ops Q rest ((d, .pointer (some ⟨b, 0, none⟩)) :: e) ((b, .cells cs.toArray T (0, 0)) :: l)) :
    Wo c ops Q (⟨some d, .box T x, ty, pos, aft, none⟩ :: rest) e l :=
  eff fun w hv a ha => ⟨_, _, _, by
    simp [execOp, Instr.box, ha.eval hx, newVar, newRow, newObj, hc, pure, bind, Sem.bind, Sem.run, Sem.run_bind']; first | done | exact ⟨rfl, rfl⟩, hv.alloc _, h _⟩
theorem mkM {d : Nat} (h : ∀ b, Wo c ops Q rest ((d, .map (some b)) :: e) ((b, .map #[] 0) :: l)) :
    Wo c ops Q (⟨some d, .makeMap T none, ty, pos, aft, none⟩ :: rest) e l :=
  eff fun w hv a ha => ⟨_, _, _, by
    simp [execOp, Instr.makeMap, newObj, pure, bind, Sem.bind, Sem.run, Sem.run_bind']; first | done | exact ⟨rfl, rfl⟩, hv.alloc _, h _⟩
/-- One cell is written. -/
inductive UpC : List Value → Nat → Value → List Value → Prop
  | z {x cs v} : UpC (x :: cs) 0 v (v :: cs)
  | s {x cs v k cs'} : UpC cs k v cs' → UpC (x :: cs) (k + 1) v (x :: cs')
theorem UpC.eq {cs k v cs'} (h : UpC cs k v cs') : cs' = cs.set k v ∧ k < cs.length := by
  induction h with
  | z => simp
  | s h ih => obtain ⟨h1, h2⟩ := ih; subst h1; simp [h2]
theorem UpC.any {cs : List Value} {k : Nat} {v : Value} (h : k < cs.length) : UpC cs k v (cs.set k v) := by
  induction cs generalizing k with
  | nil => simp at h
  | cons x cs ih => cases k with
    | zero => exact .z
    | succ k => exact .s (ih (by simpa using h))
/-- Cells in a row are written. -/
inductive UpM : List Value → Nat → List Value → List Value → Prop
  | n {cs k} : UpM cs k [] cs
  | c {cs k v vs cs' cs''} : UpC cs k v cs' → UpM cs' (k + 1) vs cs'' → UpM cs k (v :: vs) cs''
/-- A block among the owned ones. -/
inductive In : Bl → Nat → Obj → Obj → Bl → Prop
  | h {b o o' l} : In ((b, o) :: l) b o o' ((b, o') :: l)
  | t {b o o' l l' p} : In l b o o' l' → In (p :: l) b o o' (p :: l')
  | a {b o o' l l' p} : In l b o o' l' → In (l ++ p) b o o' (l' ++ p)
  | r {b o o' l l' p} : In l b o o' l' → In (p ++ l) b o o' (p ++ l')
theorem In.eq {l b o o' l'} (h : In l b o o' l') : ∃ A B, l = A ++ (b, o) :: B ∧ l' = A ++ (b, o') :: B := by
  induction h with
  | h => exact ⟨[], _, rfl, rfl⟩
  | t h ih => obtain ⟨A, B, rfl, rfl⟩ := ih; exact ⟨_ :: A, B, rfl, rfl⟩
  | @a b o o' l l' p h ih => obtain ⟨A, B, rfl, rfl⟩ := ih; exact ⟨A, B ++ p, by simp, by simp⟩
  | @r b o o' l l' p h ih => obtain ⟨A, B, rfl, rfl⟩ := ih; exact ⟨p ++ A, B, by simp, by simp⟩
theorem heap_set {w : World} {b : Nat} {E : TypeId} {cs : List Value} {off : Nat} {v : Value} {fz} (h : w.heap[b]? = some (.cells cs.toArray E fz)) :
    (w.setCell ⟨b, off, none⟩ v).heap[b]? = some (.cells (cs.set off v).toArray E fz) ∧ (∀ b', b' ≠ b → (w.setCell ⟨b, off, none⟩ v).heap[b']? = w.heap[b']?) ∧ (w.setCell ⟨b, off, none⟩ v).heap.size = w.heap.size := by
  refine ⟨?_, fun b' hb' => ?_, by simp [World.setCell]⟩
  · simp [World.setCell, Array.getElem?_modify, h]
  · simp [World.setCell, Array.getElem?_modify, Ne.symm hb']
theorem Hv.set {R w0 l0 l l' w b cs cs' E k v} (h : Hv R w0 l0 l w) (hi : In l b (.cells cs.toArray E (0, 0)) (.cells cs'.toArray E (0, 0)) l') (hu : UpC cs k v cs') :
    Hv R w0 l0 l' (w.setCell ⟨b, k, none⟩ v) := by
  obtain ⟨A, B, rfl, rfl⟩ := hi.eq
  obtain ⟨rfl, hlt⟩ := hu.eq
  have hb := h.own b _ (List.mem_append_right A (List.mem_cons_self ..))
  obtain ⟨h1, h2, h3⟩ := heap_set (off := k) (v := v) hb
  exact h.put _ h1 h2 h3 rfl rfl rfl
def one : Value → Bool
  | .agg _ | .tuple _ => false
  | _ => true
theorem Hv.run_store {P : Program} {R w0 l0 l w b cs E k} (h : Hv R w0 l0 l w) (hb : (b, Obj.cells cs (E : TypeId) (0, 0)) ∈ l) (hlt : k < cs.size) {v : Value} (h1 : one v = true) : (store ⟨b, k, none⟩ v).run P w = .ok () (w.setCell ⟨b, k, none⟩ v) := by
  have hb' := h.own b _ hb
  have hc : w.cell? ⟨b, k, none⟩ = some cs[k] := by simp [World.cell?, hb', hlt]
  have hf : w.frozen? ⟨b, k, none⟩ = false := by simp [World.frozen?, hb']
  cases v <;> first | (cases h1; done) | simp [store, Sem.run, hc, hf]
theorem In.mem {l b o o' l'} (h : In l b o o' l') : (b, o) ∈ l := by
  obtain ⟨A, B, rfl, rfl⟩ := h.eq; simp
theorem cells_one {v : Value} (h : one v = true) : v.cells = #[v] := by cases v <;> first | rfl | cases h
theorem st {b k : Nat} {cs cs' : List Value} {E : TypeId} {l' : Bl} (hs : Sz c.P T 1) (hx : ev e x = some (.pointer (some ⟨b, k, none⟩))) (hy : ev e y = some v) (h1 : one v = true)
    (hi : In l b (.cells cs.toArray E (0, 0)) (.cells cs'.toArray E (0, 0)) l') (hu : UpC cs k v cs') (h : Wo c ops Q rest e l') : Wo c ops Q (⟨none, .store T x y, ty, pos, aft, none⟩ :: rest) e l :=
  efS fun w hv a ha => ⟨_, _, by
    have := hv.run_store (P := c.P) hi.mem (k := k) (by simpa using hu.eq.2) h1
    unfold execOp
    simp only [ha.eval hx, ha.eval hy, Instr.storeAt, Instr.sureAddr, storeVar, Sem.run_bind, hs w, Result.andThen_ok, cells_one h1, storeCells, add_none, Nat.add_zero, this, pure, Sem.run]
    simp [storeCells, this, Sem.run_bind, pure, Sem.run, add_none], hv.set hi hu, h⟩
theorem Hv.run_stores {P : Program} {R w0 l0} : ∀ (vs : List Value) {A B w b cs E k i cs'}, Hv R w0 l0 (A ++ (b, Obj.cells (List.toArray cs) (E : TypeId) (0, 0)) :: B) w → UpM cs (k + i) vs cs' → vs.all one = true →
    ∃ w', (storeCells ⟨b, k, none⟩ vs i).run P w = .ok () w' ∧ Hv R w0 l0 (A ++ (b, .cells cs'.toArray E (0, 0)) :: B) w'
  | [], A, B, w, b, cs, E, k, i, cs', h, hu, _ => by
    cases hu
    exact ⟨w, by simp [storeCells, pure, Sem.run], h⟩
  | v :: vs, A, B, w, b, cs, E, k, i, cs', h, hu, h1 => by
    cases hu with
    | @c _ _ _ _ cs₁ _ hu hm =>
    simp only [List.all_cons, Bool.and_eq_true] at h1
    have hi : In (A ++ (b, Obj.cells cs.toArray E (0, 0)) :: B) b (.cells cs.toArray E (0, 0)) (.cells cs₁.toArray E (0, 0)) (A ++ (b, .cells cs₁.toArray E (0, 0)) :: B) := .r .h
    have hs := h.set hi hu
    obtain ⟨w', hr, hw⟩ := Hv.run_stores (P := P) vs (k := k) (i := i + 1) hs (by simpa [Nat.add_assoc] using hm) h1.2
    refine ⟨w', ?_, hw⟩
    rw [storeCells]
    simp only [Sem.run_bind, add_none, h.run_store (P := P) (k := k + i) hi.mem (by simpa using hu.eq.2) h1.1, Result.andThen_ok, hr]
theorem stA {b k n : Nat} {cs cs' vs : List Value} {E : TypeId} {l' : Bl} (hs : Sz c.P T n) (hx : ev e x = some (.pointer (some ⟨b, k, none⟩))) (hy : ev e y = some (.agg vs.toArray)) (hn : vs.length = n) (h1 : vs.all one = true)
    (hi : In l b (.cells cs.toArray E (0, 0)) (.cells cs'.toArray E (0, 0)) l') (hu : UpM cs k vs cs') (h : Wo c ops Q rest e l') : Wo c ops Q (⟨none, .store T x y, ty, pos, aft, none⟩ :: rest) e l :=
  efS fun w hv a ha => by
    obtain ⟨A, B, rfl, rfl⟩ := hi.eq
    obtain ⟨w', hr, hw⟩ := Hv.run_stores (P := c.P) vs (k := k) (i := 0) hv hu h1
    refine ⟨w', _, ?_, hw, h⟩
    unfold execOp
    simp only [ha.eval hx, ha.eval hy, Instr.storeAt, Instr.sureAddr, storeVar, Sem.run_bind, hs w, Result.andThen_ok, Value.cells, pure, Sem.run]
    simp [hn, hr, Sem.run_bind, pure, Sem.run]
end

/-! ## Calls -/
section
/-- What a Go function does: from the owned blocks l, where R can be read, it hands back v, and then owns l'. -/
def Tri (P : Program) (f : FuncId) (args : List Value) (R : Rd) (l : Bl) (S : Value → Bl → Prop) : Prop :=
  ∀ w, Rv R l w → Calls P f args.toArray w fun e w' => ∃ v l', e = .returned v ∧ S v l' ∧ Hv R w l l' w'
theorem Tri.mono {P f args R l} {S S' : Value → Bl → Prop} (h : Tri P f args R l S) (hs : ∀ v l', S v l' → S' v l') : Tri P f args R l S' :=
  fun w hv => (h w hv).mono fun _ _ ⟨v, l', he, hS, hw⟩ => ⟨v, l', he, hs _ _ hS, hw⟩
theorem Hv.over {R w0 l0 l F w l' w'} (h : Hv R w0 l0 (l ++ F) w) (h' : Hv (fun b o => R b o ∨ (b, o) ∈ F) w l l' w') : Hv R w0 l0 (l' ++ F) w' := by
  have hk : ∀ l, keys (l ++ F) = keys l ++ keys F := fun l => List.map_append ..
  have hn := h.nd
  rw [hk] at hn
  obtain ⟨n1, n2, n3⟩ := List.nodup_append.1 hn
  have hFlt : ∀ b, b ∈ keys F → b < w.heap.size := fun b hb => h.toRv.lt (by rw [hk]; exact List.mem_append_right _ hb)
  refine { nd := ?_, own := ?_, rd := fun b o hb => h'.rd b o (.inl hb), dis := ?_, new := ?_, ext := ?_, size := Nat.le_trans h.size h'.size, os := h'.os.trans h.os, tape := h'.tape.trans h.tape, output := h'.output.trans h.output }
  · rw [hk]
    refine List.nodup_append.2 ⟨h'.nd, n2, fun b hb b' hb' he => ?_⟩
    subst he
    rcases h'.new b hb with h1 | h1
    · exact n3 b h1 b hb' rfl
    · have := hFlt b hb'; omega
  · intro b o hb
    rcases List.mem_append.1 hb with hb | hb
    · exact h'.own b o hb
    · exact h'.rd b o (.inr hb)
  · intro b o hb hm
    rw [hk] at hm
    rcases List.mem_append.1 hm with hm | hm
    · exact h'.dis b o (.inl hb) hm
    · exact h.dis b o hb (by rw [hk]; exact List.mem_append_right _ hm)
  · intro b hb
    rw [hk] at hb
    rcases List.mem_append.1 hb with hb | hb
    · rcases h'.new b hb with h1 | h1
      · exact h.new b (by rw [hk]; exact List.mem_append_left _ h1)
      · exact .inr (Nat.le_trans h.size h1)
    · exact h.new b (by rw [hk]; exact List.mem_append_right _ hb)
  · intro b hb hnb
    have h1 := h.ext b hb hnb
    rw [← h1]
    have hlt : b < w.heap.size := Nat.lt_of_lt_of_le hb h.size
    refine h'.ext b hlt fun hm => ?_
    rcases h.new b (by rw [hk]; exact List.mem_append_left _ hm) with h2 | h2
    · exact hnb h2
    · omega
theorem Rv.under {R l F w} (h : Rv R (l ++ F) w) : Rv (fun b o => R b o ∨ (b, o) ∈ F) l w := by
  have hk : keys (l ++ F) = keys l ++ keys F := List.map_append ..
  have hn := h.nd
  rw [hk] at hn
  obtain ⟨n1, n2, n3⟩ := List.nodup_append.1 hn
  refine ⟨n1, fun b o hb => h.own b o (List.mem_append_left _ hb), fun b o hb => hb.elim (h.rd b o) (fun hb => h.own b o (List.mem_append_right _ hb)), fun b o hb hm => ?_⟩
  rcases hb with hb | hb
  · exact h.dis b o hb (by rw [hk]; exact List.mem_append_left _ hm)
  · exact n3 b hm b (mem_keys hb) rfl
/-- The frame: what is not the callee's stays. -/
theorem Tri.frame {P f args R l} (F : Bl) {S : Value → Bl → Prop} (h : Tri P f args (fun b o => R b o ∨ (b, o) ∈ F) l S) : Tri P f args R (l ++ F) fun v l' => ∃ l₁, l' = l₁ ++ F ∧ S v l₁ :=
  fun w hv => (h w hv.under).mono fun _ _ ⟨v, l', he, hS, hw⟩ => ⟨v, l' ++ F, he, ⟨l', rfl, hS⟩, hv.start.over hw⟩
theorem Rv.perm {R l l' w} (h : Rv R l w) (p : l.Perm l') : Rv R l' w := (h.start.perm p).toRv
theorem Tri.perm {P f args R l l₁} {S : Value → Bl → Prop} (p : l.Perm l₁) (h : Tri P f args R l₁ S) : Tri P f args R l S :=
  fun w hv => (h w (hv.perm p)).mono fun _ _ ⟨v, l', he, hS, hw⟩ => ⟨v, l', he, hS, { hw with
    new := fun b hb => (hw.new b hb).imp (fun h1 => (p.map _).mem_iff.2 h1) id
    ext := fun b hb hn => hw.ext b hb fun h1 => hn ((p.map _).mem_iff.2 h1) }⟩
/-- The function has a body. -/
def Fb (P : Program) (f : FuncId) : Prop := ∀ args w, (callFunc f args).run P w = .ok (.enter f args) w
theorem Fb.mk' {P : Program} {f : FuncId} {fn : Func} {b : Code} (hf : P.funcs[f]? = some fn) (hb : fn.body = some b) (hn : (fn.name == "runtime.NumGoroutine") = false) : Fb P f := fun args w => by
  have hn' : ¬ (fn.name = "runtime.NumGoroutine") := by simpa using hn
  simp [callFunc, program, hf, hb, hn', pure, bind, Sem.bind, Sem.run]
def evl (e : Env) : List Operand → Option (List Value)
  | [] => some []
  | x :: r => match ev e x, evl e r with
    | some v, some vs => some (v :: vs)
    | _, _ => none
theorem evl_eq {n a} : ∀ {ps : List Operand} {vs}, Ag n a e → evl e ps = some vs → ps.map a.eval = vs
  | [], _, _, h => by cases h; rfl
  | x :: r, vs, ha, h => by
    rw [evl] at h
    cases h1 : ev e x with
    | none => simp [h1] at h
    | some v => cases h2 : evl e r with
      | none => simp [h1, h2] at h
      | some us =>
        simp [h1, h2] at h; subst h
        simp [ha.eval h1, ← evl_eq ha h2]
theorem run_call {P : Program} {n a} {fo : Operand} {xs : List Operand} {ts : Array TypeId} {vs : List Value} {f : FuncId} {fst cap : Array Value} {d} (ha : Ag n a e) (hfo : ev e fo = some (.func (.func f) fst cap)) (hx : evl e xs = some vs) (hf : Fb P f) (w : World) :
    (execOp a.eval ⟨d, .call ⟨.value fo, xs.toArray, ts⟩, ty, pos, aft, g⟩).run P w = .ok (.enter f (fst ++ vs.toArray ++ cap)) w := by
  have h1 : xs.toArray.map a.eval = vs.toArray := by simpa using congrArg List.toArray (evl_eq ha hx)
  unfold execOp
  simp only [resolve, ha.eval hfo, h1, Deferred.ofValue, Sem.run_bind]
  simp [pure, Sem.run, invoke, hf _ w]
/-- A call, by the contract of the callee. -/
theorem clG {d : Nat} {fo : Operand} {xs : List Operand} {ts : Array TypeId} {vs ws : List Value} {f : FuncId} {fst cap : Array Value} {S : Value → Bl → Prop} (hfo : ev e fo = some (.func (.func f) fst cap)) (hx : evl e xs = some vs) (hf : Fb c.P f)
    (hw : fst.toList ++ vs ++ cap.toList = ws) (ht : Tri c.P f ws c.R l S) (h : ∀ v l', S v l' → Wo c ops Q rest ((d, v) :: e) l') : Wo c ops Q (⟨some d, .call ⟨.value fo, xs.toArray, ts⟩, ty, pos, aft, none⟩ :: rest) e l := by
  intro hok w hv a ha
  obtain ⟨h1, h2⟩ := okL_cons hok
  refine wpList_plain0 rfl ?_
  unfold Oper.wp
  rw [run_call ha hfo hx hf w]
  have hargs : fst ++ vs.toArray ++ cap = ws.toArray := by rw [← hw]; simp
  rw [hargs]
  refine (ht w hv.toRv).mono ?_
  rintro en w' ⟨v, l', rfl, hS, hw'⟩
  have hv0 : Hv c.R c.w0 c.l0 (l ++ []) w := by simpa using hv
  have := hv0.over (F := []) (l' := l') (w' := w') (by
    have : (fun b o => c.R b o ∨ (b, o) ∈ ([] : Bl)) = c.R := by funext b o; simp
    rw [this]; exact hw')
  exact h v l' hS h2 w' (by simpa using this) _ (ha.put (okD_some h1) v)
theorem cl {d : Nat} {xs : List Operand} {ts : Array TypeId} {vs : List Value} {f : FuncId} {S : Value → Bl → Prop} (hf : Fb c.P f) (hx : evl e xs = some vs)
    (ht : Tri c.P f vs c.R l S) (h : ∀ v l', S v l' → Wo c ops Q rest ((d, v) :: e) l') : Wo c ops Q (⟨some d, .call ⟨.value (.func f), xs.toArray, ts⟩, ty, pos, aft, none⟩ :: rest) e l :=
  clG rfl hx hf (by simp) ht h
/-- .. of the first of the owned blocks. -/
theorem clF {d : Nat} {xs : List Operand} {ts : Array TypeId} {vs : List Value} {f : FuncId} {l₁ F : Bl} {S : Value → Bl → Prop} (hf : Fb c.P f) (hx : evl e xs = some vs)
    (ht : Tri c.P f vs (fun b o => c.R b o ∨ (b, o) ∈ F) l₁ S) (h : ∀ v l', S v l' → Wo c ops Q rest ((d, v) :: e) (l' ++ F)) : Wo c ops Q (⟨some d, .call ⟨.value (.func f), xs.toArray, ts⟩, ty, pos, aft, none⟩ :: rest) e (l₁ ++ F) :=
  cl hf hx (ht.frame F) fun v l' ⟨l₂, he, hS⟩ => he ▸ h v l₂ hS
theorem clN {xs : List Operand} {ts : Array TypeId} {vs : List Value} {f : FuncId} {S : Value → Bl → Prop} (hf : Fb c.P f) (hx : evl e xs = some vs)
    (ht : Tri c.P f vs c.R l S) (h : ∀ v l', S v l' → Wo c ops Q rest e l') : Wo c ops Q (⟨none, .call ⟨.value (.func f), xs.toArray, ts⟩, ty, pos, aft, none⟩ :: rest) e l := by
  intro hok w hv a ha
  obtain ⟨h1, h2⟩ := okL_cons hok
  refine wpList_plain0 rfl ?_
  unfold Oper.wp
  rw [run_call ha rfl hx hf w]
  rw [show (#[] ++ vs.toArray ++ #[] : Array Value) = vs.toArray by simp]
  refine (ht w hv.toRv).mono ?_
  rintro en w' ⟨v, l', rfl, hS, hw'⟩
  have hv0 : Hv c.R c.w0 c.l0 (l ++ []) w := by simpa using hv
  have := hv0.over (F := []) (l' := l') (w' := w') (by
    have : (fun b o => c.R b o ∨ (b, o) ∈ ([] : Bl)) = c.R := by funext b o; simp
    rw [this]; exact hw')
  exact h v l' hS h2 w' (by simpa using this) _ (ha.putN v)
/-! ### A function's body -/
theorem enter {P : Program} {f : FuncId} {fn : Func} {b : Code} {n : Nat} {args : List Value} {R : Rd} {l : Bl} {S : Value → Bl → Prop} (hf : P.funcs[f]? = some fn) (hb : fn.body = some b) (hn : fn.ntmps = n) (hok : okC n b = true) (hl : Nat.ble args.length n = true)
    (h : ∀ w0, Wc ⟨P, n, R, w0, l⟩ b (bodyPost P fn fun e w' => ∃ v l', e = .returned v ∧ S v l' ∧ Hv R w0 l l' w') (mk 0 args) l) : Tri P f args R l S := by
  intro w hv
  refine calls_of_wp hf hb ?_
  refine h w w hv.start _ ⟨?_, rfl, ?_⟩ hok
  · simp [hn]; have := Nat.le_of_ble_eq_true hl; omega
  · intro t v ht
    obtain ⟨_, h2⟩ := mk_get args 0 t v ht
    have hlt : t < args.length := by
      rcases Nat.lt_or_ge t args.length with h3 | h3
      · exact h3
      · simp [h3] at h2
    have h3 : args[t]? = some v := by simpa using h2
    simp [Array.getElem?_append, hlt, h3]
    simpa [hlt] using h3
/-- The results. -/
def Rs (e : Env) : List ResultVar → Option (List Value)
  | [] => some []
  | .tmp t :: r => match gt e t, Rs e r with
    | some v, some vs => some (v :: vs)
    | _, _ => none
  | .cell .. :: _ => none
theorem Rs_run {P : Program} {n a} (ha : Ag n a e) (w : World) {F : ResultVar → Sem Value} (hF : ∀ t, F (.tmp t) = pure (a.tmps.getD t undef)) : ∀ (rs : List ResultVar) (vs : List Value), Rs e rs = some vs → (rs.mapM F).run P w = .ok vs w
  | [], vs, h => by cases h; simp [pure, Sem.run]
  | .tmp t :: r, vs, h => by
    rw [Rs] at h
    cases h1 : gt e t with
    | none => simp [h1] at h
    | some v => cases h2 : Rs e r with
      | none => simp [h1, h2] at h
      | some us =>
        simp [h1, h2] at h; subst h
        have h3 : a.tmps.getD t undef = v := by simp [ha.agree t v h1]
        rw [List.mapM_cons]
        simp only [Sem.run_bind, hF, h3, Rs_run ha w hF r us h2]
        simp only [pure, Sem.run, Result.andThen_ok, Sem.run_bind]
        rw [Rs_run ha w hF r us h2]
        rfl
  | .cell .. :: _, _, h => by cases h
def res : List Value → Value
  | [v] => v
  | vs => .tuple vs.toArray
theorem res_eq (vs : List Value) : (if h : vs.toArray.size = 1 then vs.toArray[0] else Value.tuple vs.toArray) = res vs := by
  match vs with
  | [] => rfl
  | [v] => rfl
  | v :: u :: r => simp [res]
theorem results_run {P : Program} {n a} {fn : Func} {rs : List ResultVar} {vs : List Value} (ha : Ag n a e) (w : World) (hr : fn.results = rs.toArray) (h : Rs e rs = some vs) :
    (results fn a.tmps).run P w = .ok (res vs) w := by
  unfold results
  rw [hr, List.mapM_toArray]
  have h1 := fun F hF => Rs_run (P := P) ha w (F := F) hF rs vs h
  simp only [Sem.run_bind, Functor.map, Sem.run_bind']
  rw [h1 _ (fun _ => rfl)]
  simp only [Result.andThen_ok, Function.comp, pure, Sem.run, res_eq]
theorem out {fn : Func} {rs : List ResultVar} {vs : List Value} {v : Value} {K : Ending → World → Prop} (hr : fn.results = rs.toArray) (h : Rs e rs = some vs) (hv : res vs = v)
    (hk : ∀ w, Hv c.R c.w0 c.l0 l w → K (.returned v) w) : Dn c (bodyPost c.P fn K) .ret e l :=
  fun w hw a ha => ⟨ha.defers, v, by rw [results_run ha w hr h, hv], hk w hw⟩
/-- The end of a function: what it hands back, and what it owns then. -/
theorem fin {P : Program} {n : Nat} {R : Rd} {w0 : World} {l0 l' : Bl} {fn : Func} {rs : List ResultVar} {vs : List Value} {v : Value} {S : Value → Bl → Prop} (hr : fn.results = rs.toArray) (h : Rs e rs = some vs) (hv : res vs = v)
    (hs : l'.Sublist l) (hk : S v l') : Dn ⟨P, n, R, w0, l0⟩ (bodyPost P fn fun e w' => ∃ v l', e = .returned v ∧ S v l' ∧ Hv R w0 l0 l' w') .ret e l :=
  out (c := ⟨P, n, R, w0, l0⟩) hr h hv fun w hw => ⟨v, l', rfl, hk, hw.sub hs⟩
theorem fin0 {P : Program} {n : Nat} {R : Rd} {w0 : World} {l0 : Bl} {fn : Func} {rs : List ResultVar} {v : Value} {S : Value → Bl → Prop} (hr : fn.results = rs.toArray) (h : Rs e rs = some [v])
    (hk : S v l) : Dn ⟨P, n, R, w0, l0⟩ (bodyPost P fn fun e w' => ∃ v l', e = .returned v ∧ S v l' ∧ Hv R w0 l0 l' w') .ret e l := fin hr h rfl (List.Sublist.refl _) hk
/-- .. k blocks of its own let go. -/
theorem finD {P : Program} {n : Nat} {R : Rd} {w0 : World} {l0 : Bl} {fn : Func} {rs : List ResultVar} {v : Value} {S : Value → Bl → Prop} (k : Nat) (hr : fn.results = rs.toArray) (h : Rs e rs = some [v])
    (hk : S v (l.drop k)) : Dn ⟨P, n, R, w0, l0⟩ (bodyPost P fn fun e w' => ∃ v l', e = .returned v ∧ S v l' ∧ Hv R w0 l0 l' w') .ret e l := fin hr h rfl (List.drop_sublist k l) hk
/-- .. several results, or none. -/
theorem finT {P : Program} {n : Nat} {R : Rd} {w0 : World} {l0 : Bl} {fn : Func} {rs : List ResultVar} {vs : List Value} {S : Value → Bl → Prop} (k : Nat) (hr : fn.results = rs.toArray) (h : Rs e rs = some vs) (h1 : (vs.length == 1) = false)
    (hk : S (.tuple vs.toArray) (l.drop k)) : Dn ⟨P, n, R, w0, l0⟩ (bodyPost P fn fun e w' => ∃ v l', e = .returned v ∧ S v l' ∧ Hv R w0 l0 l' w') .ret e l :=
  fin hr h (by match vs with | [] => rfl | [_] => simp at h1 | _ :: _ :: _ => rfl) (List.drop_sublist k l) hk
theorem finE {P : Program} {n : Nat} {R : Rd} {w0 : World} {l0 l' : Bl} {fn : Func} {rs : List ResultVar} {vs : List Value} {v : Value} {S : Value → Bl → Prop} (hr : fn.results = rs.toArray) (h : Rs e rs = some vs) (hv : res vs = v)
    (hs : l'.Sublist l) (hk : S v l') : Dn ⟨P, n, R, w0, l0⟩ (bodyPost P fn fun e w' => ∃ v l', e = .returned v ∧ S v l' ∧ Hv R w0 l0 l' w') .normal e l :=
  fun w hw a ha => ⟨ha.defers, v, by rw [results_run ha w hr h, hv], v, l', rfl, hk, hw.sub hs⟩
/-- A function value. -/
theorem mkF {d : Nat} {fn : Fn} {fs cs : List Operand} {us vs : List Value} (hf : evl e fs = some us) (hc : evl e cs = some vs) (hm : ∀ w, (Instr.makeFunc fn us.toArray vs.toArray).run c.P w = .ok (.func fn us.toArray vs.toArray) w) :
    Sp c l ⟨some d, .makeFunc fn fs.toArray cs.toArray, ty, pos, aft, g⟩ e (.func fn us.toArray vs.toArray) := fun w hv a ha => by
  have h1 : fs.toArray.map a.eval = us.toArray := by simpa using congrArg List.toArray (evl_eq ha hf)
  have h2 : cs.toArray.map a.eval = vs.toArray := by simpa using congrArg List.toArray (evl_eq ha hc)
  unfold execOp; simp only [h1, h2, Sem.run_bind, hm w]; rfl
/-- A number of another kind. -/
theorem cvI {x : Operand} {T T' : TypeId} {D : TypeDesc} {k k' : IntKind} {m : Int} (hT : c.P.underlying T = some D) (hT' : c.P.underlying T' = some (.int k')) (hx : ev e x = some (.int k m)) : Sp c l ⟨d, .convert T T' x, ty, pos, aft, g⟩ e (.int k' (k'.wrap m)) := fun w hv a ha => by
  simp [execOp, ha.eval hx, convert, Conv.intToInt, underlying, program, hT, hT', pure, bind, Sem.bind, Sem.run]
/-! ### A struct put together, part by part -/
inductive Fill (off : Nat → Option (Nat × Nat)) : List (Nat × Value) → List Value → List Value → Prop
  | n {cs} : Fill off [] cs cs
  | c {i v r cs cs' cs'' o vs} : off i = some (o, vs.length) → o ≤ cs.length → v.cells = vs.toArray → UpM cs o vs cs' → Fill off r cs' cs'' → Fill off ((i, v) :: r) cs cs''
theorem cells_one' {v : Value} (h : one v = true) : v.cells = List.toArray [v] := by cases v <;> first | rfl | cases h
theorem Fill.c1 {off : Nat → Option (Nat × Nat)} {i : Nat} {v : Value} {r cs cs' cs'' o} (h1 : off i = some (o, 1)) (h2 : o ≤ cs.length) (h3 : one v = true) (h4 : UpC cs o v cs') (h5 : Fill off r cs' cs'') : Fill off ((i, v) :: r) cs cs'' :=
  .c h1 h2 (cells_one' h3) (.c h4 .n) h5
theorem Fill.cA {off : Nat → Option (Nat × Nat)} {i k : Nat} {vs : List Value} {r cs cs' cs'' o} (h1 : off i = some (o, k)) (h0 : vs.length = k) (h2 : o ≤ cs.length) (h4 : UpM cs o vs cs') (h5 : Fill off r cs' cs'') : Fill off ((i, .agg vs.toArray) :: r) cs cs'' :=
  .c (by rw [h1, h0]) h2 rfl h4 h5
theorem UpM.fold {off : Nat} : ∀ (vs : List Value) (j : Nat) (cs cs' : List Value), UpM cs (off + j) vs cs' → (vs.zipIdx j).foldl (fun cs (p : Value × Nat) => cs.setIfInBounds (off + p.2) p.1) cs.toArray = cs'.toArray ∧ (vs = [] ∨ off + j + vs.length ≤ cs.length) ∧ cs'.length = cs.length
  | [], j, cs, cs', h => by cases h; exact ⟨rfl, .inl rfl, rfl⟩
  | v :: vs, j, cs, cs', h => by
    cases h with
    | @c _ _ _ _ cs₁ _ hu hm =>
    obtain ⟨rfl, hlt⟩ := hu.eq
    obtain ⟨h1, h2, h3⟩ := UpM.fold vs (j + 1) _ _ (by simpa [Nat.add_assoc] using hm)
    refine ⟨?_, .inr ?_, by simpa using h3⟩
    · rw [List.zipIdx_cons, List.foldl_cons, ← h1]; simp
    · rcases h2 with rfl | h2
      · simp; omega
      · simp at h2 ⊢; omega
theorem Fill.run {pl : Nat → Option (Nat × Nat)} {ps r cs} (h : Fill pl ps cs r) : Instr.fill pl cs.toArray ps = some r.toArray := by
  induction h with
  | n => rfl
  | @c i v rr cs cs' cs'' o vs ho hol hv hu hf ih =>
    obtain ⟨h1, h2, h3⟩ := UpM.fold (off := o) vs 0 _ _ hu
    rw [Instr.fill]
    simp only [ho, hv]
    by_cases hvs : vs = []
    · subst hvs
      cases hu
      simpa [hol, Array.zipIdx] using ih
    · have hle : o + vs.length ≤ cs.length := by rcases h2 with h2 | h2; exact absurd h2 hvs; exact h2
      have hc : ¬ ((decide (vs.toArray.size ≠ vs.length) || decide (o + vs.toArray.size > cs.toArray.size)) = true) := by simp; omega
      rw [if_neg hc, ← ih]
      congr 1
      rw [← h1, ← Array.foldl_toList, Array.toList_zipIdx]
/-- How a struct's parts lie: the place and size of each. -/
def Pl (P : Program) (T : TypeId) (z : List Value) (pl : Nat → Option (Nat × Nat)) : Prop :=
  ∀ w (vs : List (Nat × Value)) r, Fill pl vs z r → (Instr.build T vs.toArray).run P w = .ok (.agg r.toArray) w
theorem Pl.struct {P : Program} {T : TypeId} {fs : Array Field} {z : List Value} {pl : Array (Nat × Nat)} (hT : P.underlying T = some (.struct fs)) (hz : Zr P T (.agg z.toArray))
    (hm : ∀ w, (fs.mapM fun f => do pure (f.offset, ← sizeOf f.type) : Sem (Array (Nat × Nat))).run P w = .ok pl w) : Pl P T z (fun i => pl[i]?) := fun w vs r hf => by
  unfold Instr.build
  simp only [Sem.run_bind, hz w, Result.andThen_ok, underlying, program, Sem.run, hT, Value.cells]
  rw [show (pure (TypeDesc.struct fs) : Sem TypeDesc).run P w = .ok (.struct fs) w from rfl]
  simp only [Result.andThen_ok, Sem.run_bind]
  rw [hm w]; simp only [Result.andThen_ok, hf.run]; rfl
theorem Pl.array {P : Program} {T E : TypeId} {len sz : Nat} {z : List Value} (hT : P.underlying T = some (.array len E)) (hz : Zr P T (.agg z.toArray)) (hs : Sz P E sz) : Pl P T z (fun i => some (i * sz, sz)) := fun w vs r hf => by
  unfold Instr.build
  simp only [Sem.run_bind, hz w, Result.andThen_ok, underlying, program, Sem.run, hT, hs w, Value.cells, hf.run, pure]
theorem bd {T : TypeId} {ps : List (Nat × Operand)} {vs : List (Nat × Value)} {z r : List Value} {pl : Nat → Option (Nat × Nat)} (hpl : Pl c.P T z pl) (hp : evs e ps = some vs) (hf : Fill pl vs z r) : Sp c l ⟨d, .build T ps.toArray, ty, pos, aft, g⟩ e (.agg r.toArray) :=
  bld hp fun w => hpl w vs r hf
end
end
end Go.Wk
