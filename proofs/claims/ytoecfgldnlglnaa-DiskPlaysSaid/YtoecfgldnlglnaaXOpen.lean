import Derived.Test.YtoecfgldnlglnaaXDl
import Derived.Deep.Slices
import Derived.WalkKit
import Derived.ProofKit
import Derived.OpenShut
import Derived.ShutString
import Derived.ChangeOld
import Derived.Below
import Derived.SizedLaws
set_option linter.unusedVariables false
set_option linter.unusedSimpArgs false
set_option maxRecDepth 20000
/-! # The arguments, opened -/
namespace Go.Wk
open Go Go.ChangeShapes Go.WideShapes
/-- What the world holds. -/
def Rw (W : World) : Rd := fun b o => W.heap[b]? = some o
theorem rv_nil (W : World) : Rv (Rw W) [] W := ⟨List.nodup_nil, (fun _ _ h => by cases h), fun _ _ h => h, (fun _ _ _ h => by cases h)⟩
/-- A contract that says no more than 'true', as a law's row wants it. -/
theorem Tri.calls {P : Program} {f : FuncId} {args : List Value} {W : World} {v : Value} (h : Tri P f args (Rw W) [] fun v' l' => v' = v ∧ l' = []) : Calls P f args.toArray W fun e W' => e = .returned v ∧ RowKit.Below W.heap.size W W' :=
  (h W (rv_nil W)).mono fun e W' ⟨v', l', he, ⟨hv, hl⟩, hw⟩ => ⟨hv ▸ he, ⟨hw.os, hw.tape, hw.output, hw.size, fun k hk => hw.ext k hk (fun h => by cases h)⟩⟩
section
variable {H : Type} {enc : TypeId × Value → H} {P : Program} {W : World} {held : Bool}
theorem openV {t e sz fuel : Nat} {cs : List Value} {x : DataW H × List MemPlace} (ht : P.underlying t = some (.slice e)) (hc : P.cellsOf e = sz) (h0 : 0 < sz) (h : DataW.trod enc P W 0 (fun _ => true) held fuel t cs = some x) :
    ∃ (v : Value) (css : List (List Value)) (n : Nat), cs = [v] ∧ SlV sz (Rw W) v css.flatten ∧ (∀ c ∈ css, c.length = sz) ∧ (∀ c ∈ css, ∃ y, DataW.trod enc P W 0 (fun _ => true) held n e c = some y) := by
  rcases Deep.open_slice ht h with ⟨rfl, rfl⟩ | ⟨a, len, cap, m, n, D, Pl, rfl, _, hl, hm, hmm, _, hx⟩
  · exact ⟨_, [], 0, rfl, ⟨_, 0, 0, rfl, by simp, .inl rfl⟩, by simp, by simp⟩
  rw [hc] at hx
  simp only [if_true] at hmm
  subst hmm
  obtain ⟨CS, hCS⟩ := Deep.choose_lt (n := m) (p := fun i (c : List Value) => W.cells? 0 (a.add (i * sz)) sz = some c ∧ DataW.trod enc P W 0 (fun _ => true) held n e c = some (D i, Pl i)) hx
  have hlen : ∀ i, i < m → (CS i).length = sz := fun i hi => (World.cells?_some (hCS i hi).1).2.1
  have hmem : ∀ c ∈ (List.range len).map CS, ∃ i, i < m ∧ c = CS i := fun c hc => by
    obtain ⟨i, hi, rfl⟩ := List.mem_map.1 hc
    exact ⟨i, by have := List.mem_range.1 hi; omega, rfl⟩
  have hcl : ∀ c ∈ (List.range len).map CS, c.length = sz := fun c hc => by
    obtain ⟨i, hi, rfl⟩ := hmem c hc
    exact hlen i hi
  refine ⟨_, (List.range len).map CS, n, rfl, ⟨_, len, _, rfl, ?_, ?_⟩, hcl, fun c hc => by
    obtain ⟨i, hi, rfl⟩ := hmem c hc
    exact ⟨_, (hCS i hi).2⟩⟩
  · rw [List.length_flatten]
    have : ((List.range len).map CS).map List.length = List.replicate len sz := by
      rw [List.eq_replicate_iff]
      refine ⟨by simp, fun k hk => ?_⟩
      obtain ⟨c, hc, rfl⟩ := List.mem_map.1 hk
      exact hcl c hc
    rw [this]; simp
  · rcases Nat.eq_zero_or_pos len with h | hpos
    · exact .inl h
    right
    have hc0 := (World.cells?_some (hCS 0 (by omega)).1).2.2 0 h0
    obtain ⟨b, o, spot⟩ := a
    rw [Nat.zero_mul, Deep.add_add] at hc0
    simp only [Addr.add, if_true, Nat.add_zero] at hc0
    rw [List.getElem?_eq_getElem (by rw [hlen 0 (by omega)]; exact h0)] at hc0
    unfold World.cell? at hc0
    cases hb : W.heap[b]? with
    | none => simp [hb] at hc0
    | some ob =>
      cases ob with
      | cells c E fz =>
        cases spot with
        | some s => simp [hb] at hc0
        | none =>
          obtain ⟨cl, rfl⟩ : ∃ cl : List Value, c = List.toArray cl := ⟨c.toList, by simp⟩
          refine ⟨b, o, cl, E, fz, rfl, hb, fun j hj => ?_⟩
          have hi : j / sz < len := (Nat.div_lt_iff_lt_mul h0).2 hj
          have hr : j % sz < sz := Nat.mod_lt _ h0
          have h1 := (World.cells?_some (hCS (j / sz) (by omega)).1).2.2 (j % sz) hr
          have hjj : j / sz * sz + j % sz = j := by rw [Nat.mul_comm]; exact Nat.div_add_mod j sz
          rw [Deep.add_add, hjj] at h1
          have h2 := flat_at hcl (i := j / sz) (j := j % sz) (vs := CS (j / sz)) (by rw [List.getElem?_map, List.getElem?_range hi]; rfl) hr
          rw [hjj] at h2
          rw [h2, ← h1, Go.Proofs.Ytoecfgldnlglnaa.addr_add]
          simp [World.cell?, hb]
      | _ => simp [hb] at hc0
end
end Go.Wk
namespace Go.Proofs.Ytoecfgldnlglnaa
open Go Go.Wk Go.Wk.Dsk Go.ChangeShapes Go.WideShapes
section
variable {H : Type} {enc : TypeId × Value → H} {W : World} {held : Bool} {fuel : Nat} {cs : List Value} {x : DataW H × List MemPlace}
theorem co3 : Try.prog.cellsOf 3 = 1 := by kernel_rfl
theorem co5 : Try.prog.cellsOf 5 = 1 := by kernel_rfl
theorem co9 : Try.prog.cellsOf 9 = 1 := by kernel_rfl
theorem co23 : Try.prog.cellsOf 23 = 1 := by kernel_rfl
theorem co25 : Try.prog.cellsOf 25 = 2 := by kernel_rfl
theorem co44 : Try.prog.cellsOf 44 = 6 := by kernel_rfl
theorem i64wf {n : Int} (h : (Lit.int .i64 n).wf = true) : -9223372036854775808 ≤ n ∧ n ≤ 9223372036854775807 := by
  have h1 : IntKind.i64.min = -9223372036854775808 := rfl
  have h2 : IntKind.i64.max = 9223372036854775807 := rfl
  simp only [Lit.wf, h1, h2, decide_eq_true_eq, Bool.and_eq_true] at h
  exact h
/-- A slice of ints. -/
theorem openInts (h : DataW.trod enc Try.prog W 0 (fun _ => true) held fuel 23 cs = some x) : ∃ (v : Value) (l : List Int), cs = [v] ∧ SlV 1 (Rw W) v (l.map (.int .i64)) ∧ ∀ y ∈ l, -9223372036854775808 ≤ y ∧ y ≤ 9223372036854775807 := by
  obtain ⟨v, css, n, rfl, hv, hl, ht⟩ := openV Try.underlying23 co3 (by decide) h
  have : ∃ l : List Int, css = l.map (fun i => [Value.int .i64 i]) ∧ ∀ y ∈ l, -9223372036854775808 ≤ y ∧ y ≤ 9223372036854775807 := by
    clear hv hl
    induction css with
    | nil => exact ⟨[], rfl, by simp⟩
    | cons c css ih =>
      obtain ⟨l, rfl, hl⟩ := ih fun c hc => ht c (List.mem_cons_of_mem _ hc)
      obtain ⟨y, hy⟩ := ht c (List.mem_cons_self ..)
      obtain ⟨i, rfl, _, hw⟩ := DataW.trod_int Try.underlying3 hy
      refine ⟨i :: l, rfl, fun y hy => ?_⟩
      rcases List.mem_cons.1 hy with rfl | hy
      · exact i64wf hw
      · exact hl y hy
  obtain ⟨l, rfl, hw⟩ := this
  refine ⟨v, l, rfl, ?_, hw⟩
  have e : (l.map (fun i => [Value.int .i64 i])).flatten = l.map (.int .i64) := by
    clear hv hl ht hw h
    induction l with
    | nil => rfl
    | cons y l ih => simp only [List.map_cons, List.flatten_cons, ih]; rfl
  rwa [e] at hv
theorem openAct (h : DataW.trod enc Try.prog W 0 (fun _ => true) held fuel 44 cs = some x) : ∃ a, ActV (Rw W) a cs ∧ AW a := by
  obtain ⟨xs, n, _, _, hl, hxs, hf⟩ := DataW.trod_struct Try.underlying44 h
  rw [co44] at hl
  match cs, hl with
  | [c0, c1, c2, c3, c4, c5], _ =>
    have y (i : Nat) (hi : i < 5) : ∃ y, xs[i]? = some y := ⟨_, List.getElem?_eq_getElem (by rw [hxs]; exact hi)⟩
    obtain ⟨y0, h0⟩ := y 0 (by decide)
    obtain ⟨y1, h1⟩ := y 1 (by decide)
    obtain ⟨y2, h2⟩ := y 2 (by decide)
    obtain ⟨y3, h3⟩ := y 3 (by decide)
    obtain ⟨y4, h4⟩ := y 4 (by decide)
    have f0 := hf 0 _ rfl
    have f1 := hf 1 _ rfl
    have f2 := hf 2 _ rfl
    have f3 := hf 3 _ rfl
    have f4 := hf 4 _ rfl
    simp [co5, co9, co3, co25, h0, h1, h2, h3, h4] at f0 f1 f2 f3 f4
    obtain ⟨k, e0, _⟩ := DataW.trod_int Try.underlying5 f0
    obtain ⟨a, e1, _⟩ := DataW.trod_string Try.underlying9 f1
    obtain ⟨b, e2, _⟩ := DataW.trod_string Try.underlying9 f2
    obtain ⟨i, e3, _, hw⟩ := DataW.trod_int Try.underlying3 f3
    obtain ⟨zs, n', _, _, _, hzs, hf'⟩ := DataW.trod_struct Try.underlying25 f4
    have y' (i : Nat) (hi : i < 2) : ∃ y, zs[i]? = some y := ⟨_, List.getElem?_eq_getElem (by rw [hzs]; exact hi)⟩
    obtain ⟨u0, g0⟩ := y' 0 (by decide)
    obtain ⟨u1, g1⟩ := y' 1 (by decide)
    have k0 := hf' 0 _ rfl
    have k1 := hf' 1 _ rfl
    simp [co23, g0, g1] at k0 k1
    obtain ⟨sk, keep, d0, hk, _⟩ := openInts k0
    obtain ⟨st, torn, d1, ht, htw⟩ := openInts k1
    simp at e0 e1 e2 e3 d0 d1
    subst e0 e1 e2 e3 d0 d1
    exact ⟨⟨k, a, b, i, keep, torn⟩, ⟨_, _, rfl, hk, ht⟩, i64wf hw, htw⟩
theorem openActs (h : DataW.trod enc Try.prog W 0 (fun _ => true) held fuel 22 cs = some x) : ∃ v l, cs = [v] ∧ ActsV (Rw W) v l ∧ ∀ a ∈ l, AW a := by
  obtain ⟨v, css, n, rfl, hv, hl, ht⟩ := openV Try.underlying22 co44 (by decide) h
  have : ∃ l : List AM, css.length = l.length ∧ (∀ (i : Nat) a cs, l[i]? = some a → css[i]? = some cs → ActV (Rw W) a cs) ∧ ∀ a ∈ l, AW a := by
    clear hv hl
    induction css with
    | nil => exact ⟨[], rfl, by simp, by simp⟩
    | cons c css ih =>
      obtain ⟨l, h1, h2, h3⟩ := ih fun c hc => ht c (List.mem_cons_of_mem _ hc)
      obtain ⟨y, hy⟩ := ht c (List.mem_cons_self ..)
      obtain ⟨a, ha, hw⟩ := openAct hy
      refine ⟨a :: l, by simp [h1], fun i b cs hb hc => ?_, fun b hb => ?_⟩
      · cases i with
        | zero => simp at hb hc; subst hb hc; exact ha
        | succ i => exact h2 i b cs (by simpa using hb) (by simpa using hc)
      · rcases List.mem_cons.1 hb with rfl | hb
        · exact hw
        · exact h3 b hb
  obtain ⟨l, h1, h2, h3⟩ := this
  obtain ⟨p, n', cap, rfl, hxs⟩ := hv.len
  have hfl : css.flatten.length = css.length * 6 := by
    clear h1 h2 hv hxs ht h
    induction css with
    | nil => simp
    | cons c css ih => rw [List.flatten_cons, List.length_append, hl c (List.mem_cons_self ..), ih fun c h => hl c (List.mem_cons_of_mem _ h), List.length_cons, Nat.add_mul]; omega
  exact ⟨_, l, rfl, ⟨p, n', cap, css, rfl, h1, by omega, h2, hv⟩, h3⟩
end
end Go.Proofs.Ytoecfgldnlglnaa
