import Derived.Test.YtoecfgldnlglnaaXCb
import Derived.WalkKit
import Derived.Laws.Externs
import Derived.Deep.Quiet
import Derived.Sort.Grow
import Derived.Sort.BigQuietIn
set_option linter.unusedVariables false
set_option linter.unusedSimpArgs false
set_option maxRecDepth 100000
namespace Go.Proofs.Ytoecfgldnlglnaa
open Go Go.Wk Go.Sort
theorem run113 (x y : Value) (s t : ByteArray) (W : World) (hx : (Extern.Bytes.bytesOf x).run Try.prog W = .ok s W) (hy : (Extern.Bytes.bytesOf y).run Try.prog W = .ok t W) :
    (callFunc 113 #[x, y]).run Try.prog W = .ok (.value (.int .i64 (Extern.BytealgCompare.cmp s t))) W := by
  rw [run_callFunc_extern Try.func113 (by kernel_rfl) (by kernel_rfl) (by kernel_rfl) (e := Extern.BytealgCompare.compare) (by rfl)]
  have : (Extern.BytealgCompare.compare #[x, y]).run Try.prog W = .ok (.int .i64 (Extern.BytealgCompare.cmp s t)) W := by
    show ((do pure (goInt (Extern.BytealgCompare.cmp (← Extern.Bytes.bytesOf x) (← Extern.Bytes.bytesOf y)))) : Sem Value).run Try.prog W = _
    simp only [Sem.run_bind, hx, hy, Result.andThen_ok, goInt, pure, Sem.run]
  rw [this]; rfl
theorem tBC (x y : Value) (s t : ByteArray) (W : World) (hx : (Extern.Bytes.bytesOf x).run Try.prog W = .ok s W) (hy : (Extern.Bytes.bytesOf y).run Try.prog W = .ok t W) :
    Calls Try.prog 81 #[x, y] W fun e w' => e = .returned (.int .i64 (Extern.BytealgCompare.cmp s t)) ∧ w' = W := by
  have h113 := run113 x y s t W hx hy
  go_enter Try.func81, Try.ntmps81
  go_wp2
  go_ret
  exact ⟨rfl, rfl⟩
theorem load8 {W : World} {b : Nat} (t : Tok) (h : W.heap[b]? = some (.cells (tokC t).toArray 65 (0, 0))) : (Extern.Bytes.bytesOf (.slice (some ⟨b, 0, none⟩) 8 8)).run Try.prog W = .ok t.1 W := by
  have gen : ∀ (n k : Nat) (acc : ByteArray), k + n = 8 → (Extern.Bytes.loadBytes ⟨b, k, none⟩ n acc).run Try.prog W = .ok ⟨acc.data ++ (t.1.data.toList.drop k).toArray⟩ W := by
    intro n
    induction n with
    | zero =>
      intro k acc hk
      have : t.1.data.toList.drop k = [] := List.drop_of_length_le (by rw [Array.length_toList]; have : t.1.data.size = 8 := t.2; omega)
      simp [Extern.Bytes.loadBytes, pure, Sem.run, this]
    | succ n ih =>
      intro k acc hk
      have hk8 : k < t.1.data.toList.length := by rw [Array.length_toList]; have : t.1.data.size = 8 := t.2; omega
      have hc : W.cell? ⟨b, k, none⟩ = some (.int .u8 (t.1.data.toList[k]).toNat) := cell_of h (by unfold tokC; rw [List.getElem?_map, List.getElem?_eq_getElem hk8]; rfl)
      rw [Extern.Bytes.loadBytes]
      have hl : (load ⟨b, k, none⟩).run Try.prog W = .ok (.int .u8 (t.1.data.toList[k]).toNat) W := by simp [load, Sem.run, hc]
      simp only [Sem.run_bind, hl, Result.andThen_ok, add_none]
      rw [ih (k + 1) _ (by omega), List.drop_eq_getElem_cons hk8]
      congr 2
      apply Array.ext'
      simp
  have := gen 8 0 .empty rfl
  show (Extern.Bytes.loadBytes ⟨b, 0, none⟩ 8 .empty).run Try.prog W = _
  rw [this]
  congr 1
  apply ByteArray.ext
  apply Array.ext'
  simp
theorem tCmp (x y : Tok) (W : World) : Calls Try.prog 80 #[tokV x, tokV y] W fun e w' => e = .returned (.int .i64 (Extern.BytealgCompare.cmp x.1 y.1)) ∧ ∃ q os', w' = grow (W.drewN q) os' := by
  have hH : ∀ n, (((W.alloc (Obj.cells (tokC x).toArray 65)).alloc (Obj.cells (tokC y).toArray 65)).drewN n).heap[W.heap.size]? = some (.cells (tokC x).toArray 65 (0, 0)) ∧ (((W.alloc (Obj.cells (tokC x).toArray 65)).alloc (Obj.cells (tokC y).toArray 65)).drewN n).heap[W.heap.size + 1]? = some (.cells (tokC y).toArray 65 (0, 0)) := fun n => by
    constructor
    · show ((W.heap.push _).push _)[W.heap.size]? = _
      rw [Array.getElem?_push, if_neg (by simp), Array.getElem?_push_size]
    · show ((W.heap.push _).push _)[W.heap.size + 1]? = _
      rw [Array.getElem?_push, if_pos (by simp)]
  have hc : ∀ n, Calls Try.prog 81 #[.slice (some ⟨W.heap.size, 0, none⟩) 8 8, .slice (some ⟨W.heap.size + 1, 0, none⟩) 8 8] (((W.alloc (Obj.cells (tokC x).toArray 65)).alloc (Obj.cells (tokC y).toArray 65)).drewN n) _ := fun n => tBC _ _ _ _ _ (load8 x (hH n).1) (load8 y (hH n).2)
  go_enter Try.func80, Try.ntmps80
  go_wp2
  go_quiet (first | (go_at_call 81; refine Calls.quiet_of_same (hc _)))
  go_wp2
  go_ret
  exact ⟨rfl, nq, #[_, _], by rw [alloc_eq_grow, alloc_eq_grow, grow_grow]; rfl⟩
end Go.Proofs.Ytoecfgldnlglnaa
