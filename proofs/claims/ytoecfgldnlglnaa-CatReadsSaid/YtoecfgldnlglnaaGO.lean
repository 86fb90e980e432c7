import Derived.Deep.Slices
import Derived.WalkKit
import Derived.ProofKit
import Derived.OpenShut
import Derived.ShutString
import Derived.ChangeOld
import Derived.Below
import Derived.SizedLaws
import Derived.Test.YtoecfgldnlglnaaG4
set_option linter.unusedVariables false
set_option linter.unusedSimpArgs false
set_option linter.unusedSectionVars false
set_option maxRecDepth 20000
namespace Go.Wk
open Go Go.ChangeShapes Go.WideShapes
/-- What the world holds. -/
def Rw (W : World) : Rd := fun b o => W.heap[b]? = some o
theorem rv_nil (W : World) : Rv (Rw W) [] W := ⟨List.nodup_nil, (fun _ _ h => by cases h), fun _ _ h => h, (fun _ _ _ h => by cases h)⟩
/-- A contract that says no more than 'true', as a law's row wants it. -/
theorem Tri.calls {P : Program} {f : FuncId} {args : List Value} {W : World} {v : Value} (h : Tri P f args (Rw W) [] fun v' l' => v' = v ∧ l' = []) : Calls P f args.toArray W fun e W' => e = .returned v ∧ RowKit.Below W.heap.size W W' :=
  (h W (rv_nil W)).mono fun e W' ⟨v', l', he, ⟨hv, hl⟩, hw⟩ => ⟨hv ▸ he, ⟨hw.os, hw.tape, hw.output, hw.size, fun k hk => hw.ext k hk (fun h => by cases h)⟩⟩
section
variable {H : Type} {enc : TypeId × Value → H} {P : Program} {W : World} {held : Bool}
theorem openV {t e sz fuel : Nat} {cs : List Value} {x : DataW H × List MemPlace} (ht : P.underlying t = some (.slice e)) (hc : P.cellsOf e = sz) (h0 : 0 < sz) (h : DataW.trod enc P W 0 (fun _ => true) held fuel t cs = some x) :
    ∃ (v : Value) (css : List (List Value)) (n : Nat), cs = [v] ∧ SlV sz (Rw W) v css.flatten ∧ (∀ c ∈ css, c.length = sz) ∧ (∀ c ∈ css, ∃ y, DataW.trod enc P W 0 (fun _ => true) held n e c = some y) := by
  rcases Deep.open_slice ht h with ⟨rfl, rfl⟩ | ⟨a, len, cap, m, n, D, Pl, rfl, _, hl, hm, hmm, _, hx⟩
  · exact ⟨_, [], 0, rfl, ⟨_, 0, 0, rfl, by simp, .inl rfl⟩, by simp, by simp⟩
  rw [hc] at hx
  simp only [if_true] at hmm
  subst hmm
  obtain ⟨CS, hCS⟩ := Deep.choose_lt (n := m) (p := fun i (c : List Value) => W.cells? 0 (a.add (i * sz)) sz = some c ∧ DataW.trod enc P W 0 (fun _ => true) held n e c = some (D i, Pl i)) hx
  have hlen : ∀ i, i < m → (CS i).length = sz := fun i hi => (World.cells?_some (hCS i hi).1).2.1
  have hmem : ∀ c ∈ (List.range len).map CS, ∃ i, i < m ∧ c = CS i := fun c hc => by
    obtain ⟨i, hi, rfl⟩ := List.mem_map.1 hc
    exact ⟨i, by have := List.mem_range.1 hi; omega, rfl⟩
  have hcl : ∀ c ∈ (List.range len).map CS, c.length = sz := fun c hc => by
    obtain ⟨i, hi, rfl⟩ := hmem c hc
    exact hlen i hi
  refine ⟨_, (List.range len).map CS, n, rfl, ⟨_, len, _, rfl, ?_, ?_⟩, hcl, fun c hc => by
    obtain ⟨i, hi, rfl⟩ := hmem c hc
    exact ⟨_, (hCS i hi).2⟩⟩
  · rw [List.length_flatten]
    have : ((List.range len).map CS).map List.length = List.replicate len sz := by
      rw [List.eq_replicate_iff]
      refine ⟨by simp, fun k hk => ?_⟩
      obtain ⟨c, hc, rfl⟩ := List.mem_map.1 hk
      exact hcl c hc
    rw [this]; simp
  · rcases Nat.eq_zero_or_pos len with h | hpos
    · exact .inl h
    right
    have hc0 := (World.cells?_some (hCS 0 (by omega)).1).2.2 0 h0
    obtain ⟨b, o, spot⟩ := a
    rw [Nat.zero_mul, Deep.add_add] at hc0
    simp only [Addr.add, if_true, Nat.add_zero] at hc0
    rw [List.getElem?_eq_getElem (by rw [hlen 0 (by omega)]; exact h0)] at hc0
    unfold World.cell? at hc0
    cases hb : W.heap[b]? with
    | none => simp [hb] at hc0
    | some ob =>
      cases ob with
      | cells c E fz =>
        cases spot with
        | some s => simp [hb] at hc0
        | none =>
          obtain ⟨cl, rfl⟩ : ∃ cl : List Value, c = List.toArray cl := ⟨c.toList, by simp⟩
          refine ⟨b, o, cl, E, fz, rfl, hb, fun j hj => ?_⟩
          have hi : j / sz < len := (Nat.div_lt_iff_lt_mul h0).2 hj
          have hr : j % sz < sz := Nat.mod_lt _ h0
          have h1 := (World.cells?_some (hCS (j / sz) (by omega)).1).2.2 (j % sz) hr
          have hjj : j / sz * sz + j % sz = j := by rw [Nat.mul_comm]; exact Nat.div_add_mod j sz
          rw [Deep.add_add, hjj] at h1
          have h2 := flat_at hcl (i := j / sz) (j := j % sz) (vs := CS (j / sz)) (by rw [List.getElem?_map, List.getElem?_range hi]; rfl) hr
          rw [hjj] at h2
          rw [h2, ← h1, addr_add]
          simp [World.cell?, hb]
      | _ => simp [hb] at hc0
end
theorem i64wf {n : Int} (h : (Lit.int .i64 n).wf = true) : -9223372036854775808 ≤ n ∧ n ≤ 9223372036854775807 := by
  have h1 : IntKind.i64.min = -9223372036854775808 := rfl
  have h2 : IntKind.i64.max = 9223372036854775807 := rfl
  simp only [Lit.wf, h1, h2, decide_eq_true_eq, Bool.and_eq_true] at h
  exact h
theorem agg2 {v a b : Value} (h : v.cells.toList = [a, b]) : v = .agg (List.toArray [a, b]) := by
  cases v with
  | agg c => exact congrArg Value.agg (by simpa [Value.cells] using congrArg List.toArray h)
  | _ => simp [Value.cells] at h
end Go.Wk
