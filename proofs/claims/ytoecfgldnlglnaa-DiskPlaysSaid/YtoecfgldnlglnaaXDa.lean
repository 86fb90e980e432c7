import Derived.Test.YtoecfgldnlglnaaXFacts
import Derived.Test.YtoecfgldnlglnaaXMem
set_option linter.unusedVariables false
set_option maxRecDepth 20000
namespace Go.Proofs.Ytoecfgldnlglnaa
open Go Go.Wk

/-- (*Disk).none: a nil disk. -/
theorem dNone_nil {R l} : Tri Try.prog 48 [.pointer none] R l fun v l' => v = .bool true ∧ l' = l := by
  refine enter Try.func48 rfl rfl (by kernel_rfl) rfl fun w0 => ?_
  refine seq ?_
  refine reg ?_
  refine q (asg rfl) ?_
  refine en ?_
  refine seq ?_
  refine reg ?_
  refine q (mv rfl) ?_
  refine q (eqS rfl rfl rfl (fun w => run_pnil Try.underlying29 w)) ?_
  refine q (mv rfl) ?_
  refine gF rfl rfl rfl ?_
  refine gF rfl rfl rfl ?_
  refine gF rfl rfl rfl ?_
  refine gF rfl rfl rfl ?_
  refine gF rfl rfl rfl ?_
  refine q (by first | exact pkT rfl rfl | exact pkF rfl rfl) ?_
  refine q (asg rfl) ?_
  refine en ?_
  refine ret ?_
  exact fin0 rfl rfl ⟨rfl, rfl⟩
/-- A disk's own block. -/
abbrev dO (m : Option Nat) (off : Bool) (fuse : Int) : Obj := .cells (List.toArray [.map m, .bool off, .int .i64 fuse]) 100 (0, 0)
theorem dNone {R l d m off fuse} (hd : Has R l d (dO (some m) off fuse)) : Tri Try.prog 48 [.pointer (some ⟨d, 0, none⟩)] R l fun v l' => v = .bool false ∧ l' = l := by
  refine enter Try.func48 rfl rfl (by kernel_rfl) rfl fun w0 => ?_
  refine seq ?_
  refine reg ?_
  refine q (asg rfl) ?_
  refine en ?_
  refine seq ?_
  refine reg ?_
  refine q (mv rfl) ?_
  refine q (eqS rfl rfl rfl (fun w => run_pnil Try.underlying29 w)) ?_
  refine q (mv rfl) ?_
  refine gT rfl rfl ?_
  refine q (mv rfl) ?_
  refine gT rfl rfl ?_
  refine q (nck rfl) ?_
  refine gT rfl rfl ?_
  refine q (fa fo100_0 rfl) ?_
  refine gT rfl rfl ?_
  refine q (ld na98 rfl (by first | exact mR (by assumption) | repeat (first | assumption | exact m0 | apply mS | apply mA)) rfl) ?_
  refine gT rfl rfl ?_
  refine q (eqS rfl rfl rfl (fun w => run_mnil Try.underlying98 w)) ?_
  refine q (by first | exact pkT rfl rfl | exact pkF rfl rfl) ?_
  refine q (asg rfl) ?_
  refine en ?_
  refine ret ?_
  exact fin0 rfl rfl ⟨rfl, rfl⟩
/-- power: why nothing can be done. -/
def pw (off : Bool) : Int := if off then 7 else 0
theorem dPower {R l d m off fuse} (hd : Has R l d (dO (some m) off fuse)) : Tri Try.prog 53 [.pointer (some ⟨d, 0, none⟩)] R l fun v l' => v = .int .i64 (pw off) ∧ l' = l := by
  refine enter Try.func53 rfl rfl (by kernel_rfl) rfl fun w0 => ?_
  refine seq ?_
  refine reg ?_
  refine q (asg rfl) ?_
  refine en ?_
  refine seq ?_
  refine blk ?_
  refine seq ?_
  refine reg ?_
  refine q (mv rfl) ?_
  refine cl fb48 rfl (dNone hd) ?_
  rintro v l' ⟨rfl, rfl⟩
  refine q (asg rfl) ?_
  refine en ?_
  refine ifF rfl ?_
  refine seq ?_
  refine reg ?_
  refine q (mv rfl) ?_
  refine q (nck rfl) ?_
  refine q (fa fo100_1 rfl) ?_
  refine q (ld na4 rfl (by first | exact mR (by assumption) | repeat (first | assumption | exact m0 | apply mS | apply mA)) rfl) ?_
  refine q (asg rfl) ?_
  refine en ?_
  refine ifb rfl (fun h => ?_) (fun h => ?_)
  · refine seq ?_
    refine reg ?_
    refine q (asg rfl) ?_
    refine en ?_
    refine ret (dBr (dSr ?_))
    exact fin0 rfl rfl ⟨by simp [pw, h], rfl⟩
  · refine skp (dBn (dSq ?_))
    refine seq ?_
    refine reg ?_
    refine q (asg rfl) ?_
    refine en ?_
    refine ret ?_
    exact fin0 rfl rfl ⟨by simp [pw, h], rfl⟩
theorem dRight {R l} (s : ByteArray) (hs : s.size ≤ 1000000000000) : Tri Try.prog 55 [.string s] R l fun v l' => v = .bool (decide (s ≠ ⟨#[]⟩ ∧ s.size ≤ 32)) ∧ l' = l := by
  refine enter Try.func55 rfl rfl (by kernel_rfl) rfl fun w0 => ?_
  refine seq ?_
  refine reg ?_
  refine q (asg rfl) ?_
  refine en ?_
  refine seq ?_
  refine reg ?_
  refine q (mv rfl) ?_
  refine q (sNeq rfl rfl) ?_
  refine q (mv rfl) ?_
  refine decd (t := 5) rfl (fun h => ?_) (fun h => ?_)
  · refine gT rfl rfl ?_
    refine q (mv rfl) ?_
    refine gT rfl rfl ?_
    refine q (lnS Try.underlying9 rfl) ?_
    refine gT rfl rfl ?_
    refine q (bLeq rfl rfl) ?_
    refine q (by first | exact pkT rfl rfl | exact pkF rfl rfl) ?_
    refine q (asg rfl) ?_
    refine en ?_
    refine ret ?_
    exact fin0 rfl rfl ⟨by simp [h]; exact (by omega), rfl⟩
  · refine gF rfl rfl rfl ?_
    refine gF rfl rfl rfl ?_
    refine gF rfl rfl rfl ?_
    refine q (by first | exact pkT rfl rfl | exact pkF rfl rfl) ?_
    refine q (asg rfl) ?_
    refine en ?_
    refine ret ?_
    exact fin0 rfl rfl ⟨by simp [h], rfl⟩
theorem dDown {R l d m off fuse} (hd : Has R l d (dO (some m) off fuse)) : Tri Try.prog 26 [.pointer (some ⟨d, 0, none⟩)] R l fun v l' => v = .bool off ∧ l' = l := by
  refine enter Try.func26 rfl rfl (by kernel_rfl) rfl fun w0 => ?_
  refine seq ?_
  refine reg ?_
  refine q (asg rfl) ?_
  refine en ?_
  refine seq ?_
  refine reg ?_
  refine q (mv rfl) ?_
  refine cl fb48 rfl (dNone hd) ?_
  rintro v l' ⟨rfl, rfl⟩
  refine q (mv rfl) ?_
  refine gT rfl rfl ?_
  refine q (mv rfl) ?_
  refine gT rfl rfl ?_
  refine q (nck rfl) ?_
  refine gT rfl rfl ?_
  refine q (fa fo100_1 rfl) ?_
  refine gT rfl rfl ?_
  refine q (ld na4 rfl (by first | exact mR (by assumption) | repeat (first | assumption | exact m0 | apply mS | apply mA)) rfl) ?_
  refine q (by first | exact pkT rfl rfl | exact pkF rfl rfl) ?_
  refine q (asg rfl) ?_
  refine en ?_
  refine ret ?_
  exact fin0 rfl rfl ⟨rfl, rfl⟩
theorem dFused {R l d m off fuse} (hd : Has R l d (dO (some m) off fuse)) : Tri Try.prog 27 [.pointer (some ⟨d, 0, none⟩)] R l fun v l' => v = .int .i64 fuse ∧ l' = l := by
  refine enter Try.func27 rfl rfl (by kernel_rfl) rfl fun w0 => ?_
  refine seq ?_
  refine reg ?_
  refine q (asg rfl) ?_
  refine en ?_
  refine seq ?_
  refine seq ?_
  refine reg ?_
  refine q (mv rfl) ?_
  refine cl fb48 rfl (dNone hd) ?_
  rintro v l' ⟨rfl, rfl⟩
  refine en ?_
  refine ifF rfl ?_
  refine skp (dSq ?_)
  refine seq ?_
  refine reg ?_
  refine q (mv rfl) ?_
  refine q (nck rfl) ?_
  refine q (fa fo100_2 rfl) ?_
  refine q (ld na3 rfl (by first | exact mR (by assumption) | repeat (first | assumption | exact m0 | apply mS | apply mA)) rfl) ?_
  refine q (asg rfl) ?_
  refine en ?_
  refine ret ?_
  exact fin0 rfl rfl ⟨rfl, rfl⟩
end Go.Proofs.Ytoecfgldnlglnaa

