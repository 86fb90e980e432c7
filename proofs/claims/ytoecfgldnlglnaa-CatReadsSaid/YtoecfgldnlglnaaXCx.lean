import Derived.Test.YtoecfgldnlglnaaXCw
import Derived.Test.YtoecfgldnlglnaaXCn
set_option linter.unusedVariables false
set_option linter.unusedSimpArgs false
set_option maxRecDepth 20000
namespace Go.Proofs.Ytoecfgldnlglnaa
open Go Go.Wk Go.Wk.Num
theorem z4ptr : ∃ zv, Zr Try.prog 176 zv ∧ ((Array.range (4 * 1)).map (zv.cells[· % zv.cells.size]!)) = List.toArray [Value.pointer none, .pointer none, .pointer none, .pointer none] := ⟨_, zr176, by kernel_rfl⟩
/-- After i numbers. -/
noncomputable def qrest (s : List UInt8) : Nat → List UInt8
  | 0 => s
  | i + 1 => (qr (qrest s i)).2
noncomputable def qval (s : List UInt8) (i : Nat) : Int := (qr (qrest s i)).1
noncomputable def qcell (s : List UInt8) (i : Nat) : List Value := [.int .i64 (if 0 < i then qval s 0 else 0), .int .i64 (if 1 < i then qval s 1 else 0), .int .i64 (if 2 < i then qval s 2 else 0), .int .i64 (if 3 < i then qval s 3 else 0)]
theorem qcell_set (s : List UInt8) {i : Nat} (hi : i < 4) : (qcell s i).set i (.int .i64 (qval s i)) = qcell s (i + 1) := by
  match i, hi with
  | 0, _ | 1, _ | 2, _ | 3, _ => simp [qcell]
theorem quoR_eq (s : List UInt8) : quoR s = (⟨qval s 0, qval s 1, qval s 2, qval s 3⟩, qrest s 4) := rfl
theorem qrest_len (s : List UInt8) : ∀ i, (qrest s i).length ≤ s.length
  | 0 => Nat.le_refl _
  | i + 1 => by
    have := qrest_len s i
    show ((qrest s i).drop _).length ≤ _
    rw [List.length_drop]; omega
abbrev quoPs (b : Nat) : List Value := [.pointer (some ⟨b, 0 + 0, none⟩), .pointer (some ⟨b, 0 + 1, none⟩), .pointer (some ⟨b, 0 + 2, none⟩), .pointer (some ⟨b, 0 + 3, none⟩)]
theorem pQuotaR {R s} (hs : s.length ≤ 1000000000000) : Tri Try.prog 82 [bs s] R [] fun v l' => v = .tuple (List.toArray [quoV (quoR s).1, bs (quoR s).2]) ∧ l' = [] := by
  refine enter Try.func82 rfl rfl (by kernel_rfl) rfl fun w0 => ?_
  refine seq ?_
  refine reg ?_
  refine al zr67 rfl ?_
  intro b1
  refine q (asg rfl) ?_
  refine en ?_
  refine seq ?_
  refine seq ?_
  refine reg ?_
  refine q (fa fo67_0 rfl) ?_
  refine q (fa fo67_1 rfl) ?_
  refine q (fa fo67_2 rfl) ?_
  refine q (fa fo67_3 rfl) ?_
  refine eo (eBs Try.underlying177 sz176 z4ptr ⟨by decide, by decide⟩ rfl (.c1 rfl (by decide) rfl .z (.c1 rfl (by simp) rfl (.s .z) (.c1 rfl (by simp) rfl (.s (.s .z)) (.c1 rfl (by simp) rfl (.s (.s (.s .z))) .n))))) ?_
  rintro _ _ ⟨b4, rfl, rfl⟩
  refine q (lnL Try.underlying177 rfl) ?_
  refine q (mv rfl) ?_
  refine en ?_
  refine blk ?_
  refine cSub (e' := [(0, bs s), (2, .pointer (some ⟨b1, 0, none⟩)), (13, .slice (some ⟨b4, 0, none⟩) 4 4), (14, .int .i64 4), (15, .int .i64 0)]) (by repeat first | exact Sub.nil | refine Sub.cons rfl ?_) ?_
  refine loop (fun m' e l => ∃ i : Nat, m' = 4 - i ∧ i ≤ 4 ∧ e = [(0, bs (qrest s i)), (2, .pointer (some ⟨b1, 0, none⟩)), (13, .slice (some ⟨b4, 0, none⟩) 4 4), (14, .int .i64 4), (15, .int .i64 (i : Nat))] ∧ l = [(b4, .cells (quoPs b1).toArray 176 (0, 0)), (b1, .cells (qcell s i).toArray 67 (0, 0))]) 4 ⟨0, rfl, by omega, rfl, rfl⟩ ?_
  rintro m' _ _ ⟨i, rfl, hi, rfl, rfl⟩
  refine seq ?_
  refine reg ?_
  refine q (bLss rfl rfl) ?_
  refine en ?_
  refine seq ?_
  refine ifd rfl (fun hlt => ?_) (fun hlt => ?_)
  · have hlt : i < 4 := by omega
    have hl := qrest_len s i
    have hrk := rK_le (qrest s i)
    have hp : (quoPs b1)[0 + ((i : Nat) : Int).toNat * 1]? = some (.pointer (some ⟨b1, i, none⟩)) := by
      match i, hlt with
      | 0, _ | 1, _ | 2, _ | 3, _ => rfl
    have hu : UpC (qcell s i) i (.int .i64 (qval s i)) (qcell s (i + 1)) := by
      rw [← qcell_set s hlt]; exact UpC.any (by simp [qcell]; omega)
    refine skp (dSq ?_)
    refine seq ?_
    refine blk ?_
    refine seq ?_
    refine reg ?_
    refine q (ia Try.underlying177 sz176 rfl rfl (by omega) (by omega)) ?_
    refine q (ld na176 rfl (by first | exact mR (by assumption) | repeat (first | assumption | exact m0 | apply mS | apply mA)) (by first | rfl | assumption)) ?_
    refine q (asg rfl) ?_
    refine en ?_
    refine seq ?_
    refine reg ?_
    refine q (mv rfl) ?_
    refine cl0v fb83 rfl (nReadV (by omega)) ?_
    refine q (mv rfl) ?_
    refine q (ext rfl rfl) ?_
    refine q (ext rfl rfl) ?_
    refine q (ext rfl rfl) ?_
    refine q (asg rfl) ?_
    refine q (asg rfl) ?_
    refine q (asg rfl) ?_
    refine en ?_
    refine seq ?_
    refine reg ?_
    refine q (mv rfl) ?_
    refine q (mv rfl) ?_
    refine q ((mn2 rfl rfl).to (u := .int .u64 (min (rN (qrest s i)) 4294967296 : Nat)) (by congr 1; omega)) ?_
    refine q (cvN (min (rN (qrest s i)) 4294967296) (min (rN (qrest s i)) 4294967296) Try.underlying128 Try.underlying3 rfl (wrap_i64 (by omega))) ?_
    refine q (nck rfl) ?_
    refine st sz3 rfl rfl rfl (.t .h) hu ?_
    refine en ?_
    refine reg ?_
    refine q (mv rfl) ?_
    refine q (mv rfl) ?_
    refine q (slT (L := rK (qrest s i)) (H := (qrest s i).length) Try.underlying9 rfl rfl (by show _ = _; rw [bs_size]) hrk.1 (by rw [bs_size]; exact Nat.le_refl _)) ?_
    refine q (asg rfl) ?_
    refine enD (dBn (dSq ?_))
    refine reg ?_
    refine q (by first | exact bAddi rfl rfl (by omega) | exact bAdd rfl rfl) ?_
    refine q (mv rfl) ?_
    refine enD ?_
    rw [bs_extract, List.take_of_length_le (by rw [List.length_drop]; exact Nat.le_refl _)]
    exact dLp (m' := 4 - (i + 1)) (e' := [(0, bs (qrest s (i + 1))), (2, .pointer (some ⟨b1, 0, none⟩)), (13, .slice (some ⟨b4, 0, none⟩) 4 4), (14, .int .i64 4), (15, .int .i64 ((i + 1 : Nat) : Int))]) (by omega) (by repeat first | exact Sub.nil | refine Sub.cons rfl ?_) ⟨i + 1, rfl, by omega, rfl, rfl⟩
  · have h4 : i = 4 := by omega
    subst h4
    refine exi (dSe (dLe (dBe (dSq ?_))))
    refine seq ?_
    refine reg ?_
    refine q (ldA ag67 rfl (by first | exact mR (by assumption) | repeat (first | assumption | exact m0 | apply mS | apply mA)) (by first | assumption | repeat constructor)) ?_
    refine q (mv rfl) ?_
    refine stA sz67 rfl rfl rfl rfl (by repeat (first | exact .h | apply In.t | apply In.r)) (by first | assumption | repeat constructor) ?_
    refine q (asg rfl) ?_
    refine en ?_
    refine ret ?_
    rw [quoR_eq]
    exact finZ [] rfl (.agg ag67 rfl m1 (tkAll rfl) (.tmp rfl .nil)) rfl (fun a => by first | (simp only [cnt_append, cnt_cons, cnt_nil, id]; done) | (simp only [cnt_append, cnt_cons, cnt_nil, id]; omega)) ⟨rfl, rfl⟩

