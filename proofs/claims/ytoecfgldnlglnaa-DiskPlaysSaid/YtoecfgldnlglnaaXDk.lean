import Derived.Test.YtoecfgldnlglnaaXDj
set_option linter.unusedVariables false
set_option linter.unusedSimpArgs false
set_option maxRecDepth 20000
namespace Go.Proofs.Ytoecfgldnlglnaa
open Go Go.Wk Go.Wk.Dsk

def aw1 : DM := ⟨[(⟨#[97]⟩, ⟨[⟨#[120, 121, 122]⟩], 0, false, ⟨#[]⟩⟩)], false, 0⟩
def aw2 : DM := ⟨[(⟨#[97]⟩, ⟨[⟨#[120, 121, 122]⟩], 1, false, ⟨#[]⟩⟩)], false, 0⟩
def aw3 : DM := ⟨[(⟨#[97]⟩, ⟨[⟨#[120, 121, 122]⟩, ⟨#[112, 113]⟩], 1, false, ⟨#[]⟩⟩)], false, 0⟩
def aw4 : DM := ⟨[(⟨#[97]⟩, ⟨[⟨#[120, 121, 122]⟩, ⟨#[112, 113]⟩, ⟨#[114, 115, 116]⟩], 1, false, ⟨#[]⟩⟩)], false, 0⟩
def aw5 : DM := ⟨[(⟨#[97]⟩, ⟨[⟨#[120, 121, 122]⟩, ⟨#[112, 113]⟩], 2, true, ⟨#[114, 115]⟩⟩)], true, 0⟩
def aw6 : DM := ⟨[(⟨#[97]⟩, ⟨[⟨#[120, 121, 122]⟩, ⟨#[112, 113]⟩], 2, true, ⟨#[114, 115]⟩⟩)], false, 0⟩
theorem aE1 : append new ⟨#[97]⟩ ⟨#[120, 121, 122]⟩ = (0, aw1) := by rfl
theorem aE2 : sync aw1 ⟨#[97]⟩ = (0, aw2) := by rfl
theorem aE3 : append aw2 ⟨#[97]⟩ ⟨#[112, 113]⟩ = (0, aw3) := by rfl
theorem aE4 : append aw3 ⟨#[97]⟩ ⟨#[114, 115, 116]⟩ = (0, aw4) := by rfl
theorem aE5 : crash aw4 [1] [2] = aw5 := by rfl
theorem aE6 : Dsk.read aw5 ⟨#[97]⟩ = (⟨#[]⟩, 7) := by rfl
theorem aE7 : Dsk.start aw5 = aw6 := by rfl
theorem aE8 : Dsk.read aw6 ⟨#[97]⟩ = (⟨#[120, 121, 122, 112, 113, 114, 115]⟩, 0) := by rfl
theorem aE9 : records aw6 ⟨#[97]⟩ = (2, 2) := by rfl
theorem aO : DOk 0 new := DOk.new 0
theorem aO1 : DOk 1 aw1 := by have := aO.append (n := ⟨#[97]⟩) (r := ⟨#[120, 121, 122]⟩) (by decide); rwa [aE1] at this
theorem aO2 : DOk 1 aw2 := by have := aO1.sync (n := ⟨#[97]⟩); rwa [aE2] at this
theorem aO3 : DOk 2 aw3 := by have := aO2.append (n := ⟨#[97]⟩) (r := ⟨#[112, 113]⟩) (by decide); rwa [aE3] at this
theorem aO4 : DOk 3 aw4 := by have := aO3.append (n := ⟨#[97]⟩) (r := ⟨#[114, 115, 116]⟩) (by decide); rwa [aE4] at this
theorem aO5 : DOk 3 aw5 := by have := aO4.crash (keep := [1]) (torn := [2]); rwa [aE5] at this
theorem aO6 : DOk 3 aw6 := by have := aO5.start; rwa [aE7] at this
theorem z3 : ∃ zv, Zr Try.prog 3 zv ∧ ((Array.range (1 * 1)).map (zv.cells[· % zv.cells.size]!)) = [Value.int .i64 0].toArray := ⟨_, zr3, by kernel_rfl⟩
section
variable {R : Rd} {d : Nat} {D : DM} {l : Bl} {K : Nat}
theorem dAppendK {n r : ByteArray} {x : Int} {D' : DM} (hD : IsD d D l) (hO : DOk K D) (hK : K ≤ 1000) (hn : n.size ≤ 20000) (e : append D n r = (x, D')) : Tri Try.prog 24 [.pointer (some ⟨d, 0, none⟩), .string n, .string r] R l fun v l' => v = .int .i64 x ∧ IsD d D' l' := by
  have := dAppend (R := R) (n := n) (r := r) hD hO.sd (by omega) hO.fuse.2 (by have := (hO.fileOf n).len; omega)
  rwa [e] at this
theorem dSyncK {n : ByteArray} {x : Int} {D' : DM} (hD : IsD d D l) (hO : DOk K D) (e : sync D n = (x, D')) : Tri Try.prog 28 [.pointer (some ⟨d, 0, none⟩), .string n] R l fun v l' => v = .int .i64 x ∧ IsD d D' l' := by
  have := dSync (R := R) (n := n) hD hO.sd hO.fuse.2
  rwa [e] at this
theorem dReadK {n s : ByteArray} {x : Int} (hD : IsD d D l) (hO : DOk K D) (hK : K ≤ 1000) (e : Dsk.read D n = (s, x)) : Tri Try.prog 22 [.pointer (some ⟨d, 0, none⟩), .string n] R l fun v l' => v = .tuple (List.toArray [.string s, .int .i64 x]) ∧ l' = l := by
  have hfl : K * 20000 ≤ 1000 * 20000 := Nat.mul_le_mul_right _ hK
  have := dRead (R := R) (n := n) hD hO.sd (by have := (hO.fileOf n).len; omega) (by have := (hO.fileOf n).bytes; omega)
  rwa [e] at this
theorem dRecordsK {n : ByteArray} {x y : Nat} (hD : IsD d D l) (hO : DOk K D) (hK : K ≤ 1000) (e : records D n = (x, y)) : Tri Try.prog 23 [.pointer (some ⟨d, 0, none⟩), .string n] R l fun v l' => v = .tuple (List.toArray [.int .i64 x, .int .i64 y]) ∧ l' = l := by
  have := dRecords (R := R) (n := n) hD hO.sd (by have := (hO.fileOf n).len; omega)
  rwa [e] at this
theorem dStartK {D' : DM} (hD : IsD d D l) (e : Dsk.start D = D') : Tri Try.prog 17 [.pointer (some ⟨d, 0, none⟩)] R l fun v l' => v = .tuple #[] ∧ IsD d D' l' := by
  have := dStartD (R := R) hD
  rwa [e] at this
end
theorem dAwake {R l} : Tri Try.prog 14 [] R l fun v l' => v = .bool true ∧ l' = l := by
  refine enter Try.func14 rfl rfl (by kernel_rfl) rfl fun w0 => ?_
  refine seq ?_
  refine reg ?_
  refine q (asg rfl) ?_
  refine en ?_
  refine seq ?_
  refine reg ?_
  refine cl fb15 rfl (dNew) ?_
  rintro _ _ ⟨d, l1, rfl, hD, rfl⟩
  refine q (asg rfl) ?_
  refine en ?_
  refine seq ?_
  refine seq ?_
  refine reg ?_
  refine q (mv rfl) ?_
  refine clQ fb24 rfl l1 l (fun _ => rfl) (dAppendK hD aO (by decide) (by decide) aE1) ?_
  rintro _ l2 ⟨rfl, hD⟩
  refine q (bNeq rfl rfl) ?_
  refine q (mv rfl) ?_
  refine gT rfl rfl ?_
  refine q (mv rfl) ?_
  refine gT rfl rfl ?_
  refine clQ fb28 rfl l2 l (fun _ => rfl) (dSyncK hD aO1 aE2) ?_
  rintro _ l2 ⟨rfl, hD⟩
  refine gT rfl rfl ?_
  refine q (bNeq rfl rfl) ?_
  refine q (by first | exact pkT rfl rfl | exact pkF rfl rfl) ?_
  refine q (mv rfl) ?_
  refine gT rfl rfl ?_
  refine q (mv rfl) ?_
  refine gT rfl rfl ?_
  refine clQ fb24 rfl l2 l (fun _ => rfl) (dAppendK hD aO2 (by decide) (by decide) aE3) ?_
  rintro _ l2 ⟨rfl, hD⟩
  refine gT rfl rfl ?_
  refine q (bNeq rfl rfl) ?_
  refine q (by first | exact pkT rfl rfl | exact pkF rfl rfl) ?_
  refine q (mv rfl) ?_
  refine gT rfl rfl ?_
  refine q (mv rfl) ?_
  refine gT rfl rfl ?_
  refine clQ fb24 rfl l2 l (fun _ => rfl) (dAppendK hD aO3 (by decide) (by decide) aE4) ?_
  rintro _ l2 ⟨rfl, hD⟩
  refine gT rfl rfl ?_
  refine q (bNeq rfl rfl) ?_
  refine q (by first | exact pkT rfl rfl | exact pkF rfl rfl) ?_
  refine en ?_
  refine ifF rfl ?_
  refine skp (dSq ?_)
  refine seq ?_
  refine reg ?_
  refine q (mv rfl) ?_
  refine eo (eBs Try.underlying23 sz3 z3 ⟨by decide, by decide⟩ rfl (.c1 rfl (by decide) rfl .z .n)) ?_
  rintro _ _ ⟨k1, rfl, rfl⟩
  refine eo (eBs Try.underlying23 sz3 z3 ⟨by decide, by decide⟩ rfl (.c1 rfl (by decide) rfl .z .n)) ?_
  rintro _ _ ⟨k2, rfl, rfl⟩
  refine q (bd pl25 rfl (.c1 rfl (by first | decide | simp) rfl (by repeat constructor) (.c1 rfl (by first | decide | simp) rfl (by repeat constructor) .n))) ?_
  have hcr := fun {R' : Rd} (h1 : R' k1 (.cells (List.toArray [.int .i64 1]) 3 (0, 0))) (h2 : R' k2 (.cells (List.toArray [.int .i64 2]) 3 (0, 0))) => dCrash (R := R') (keep := [1]) (torn := [2]) hD aO4 (by decide) (SlI.toV (E := 3) (.blk (b := k1) (pre := []) (xs := [.int .i64 1]) (sp := []) (n := 1) (cap := 1) rfl rfl (Nat.le_refl _)) (fun x hx => by obtain rfl := List.mem_singleton.1 hx; exact h1)) (SlI.toV (E := 3) (.blk (b := k2) (pre := []) (xs := [.int .i64 2]) (sp := []) (n := 1) (cap := 1) rfl rfl (Nat.le_refl _)) (fun x hx => by obtain rfl := List.mem_singleton.1 hx; exact h2)) (by decide) (by decide) (by decide)
  rw [aE5] at hcr
  refine clQ fb21 rfl l2 ((k1, .cells (List.toArray [.int .i64 1]) 3 (0, 0)) :: (k2, .cells (List.toArray [.int .i64 2]) 3 (0, 0)) :: l) (fun a => by simp only [cnt_append, cnt_cons, cnt_nil]; omega) (hcr (.inr (by simp)) (.inr (by simp))) ?_
  rintro _ l2 ⟨rfl, hD⟩
  refine en ?_
  refine seq ?_
  refine reg ?_
  refine q (mv rfl) ?_
  refine clR fb22 rfl l2 ((k1, .cells (List.toArray [.int .i64 1]) 3 (0, 0)) :: (k2, .cells (List.toArray [.int .i64 2]) 3 (0, 0)) :: l) (fun _ => rfl) (dReadK hD aO5 (by decide) aE6) ?_
  refine q (mv rfl) ?_
  refine q (ext rfl rfl) ?_
  refine q (ext rfl rfl) ?_
  refine q (asg rfl) ?_
  refine q (asg rfl) ?_
  refine en ?_
  refine seq ?_
  refine reg ?_
  refine q (mv rfl) ?_
  refine clQ fb17 rfl l2 ((k1, .cells (List.toArray [.int .i64 1]) 3 (0, 0)) :: (k2, .cells (List.toArray [.int .i64 2]) 3 (0, 0)) :: l) (fun _ => rfl) (dStartK hD aE7) ?_
  rintro _ l2 ⟨rfl, hD⟩
  refine en ?_
  refine seq ?_
  refine reg ?_
  refine q (mv rfl) ?_
  refine clR fb22 rfl l2 ((k1, .cells (List.toArray [.int .i64 1]) 3 (0, 0)) :: (k2, .cells (List.toArray [.int .i64 2]) 3 (0, 0)) :: l) (fun _ => rfl) (dReadK hD aO6 (by decide) aE8) ?_
  refine q (mv rfl) ?_
  refine q (ext rfl rfl) ?_
  refine q (ext rfl rfl) ?_
  refine q (asg rfl) ?_
  refine q (asg rfl) ?_
  refine en ?_
  refine seq ?_
  refine reg ?_
  refine q (mv rfl) ?_
  refine clR fb23 rfl l2 ((k1, .cells (List.toArray [.int .i64 1]) 3 (0, 0)) :: (k2, .cells (List.toArray [.int .i64 2]) 3 (0, 0)) :: l) (fun _ => rfl) (dRecordsK hD aO6 (by decide) aE9) ?_
  refine q (mv rfl) ?_
  refine q (ext rfl rfl) ?_
  refine q (ext rfl rfl) ?_
  refine q (asg rfl) ?_
  refine q (asg rfl) ?_
  refine en ?_
  refine seq ?_
  refine reg ?_
  refine q (mv rfl) ?_
  refine q (bEql rfl rfl) ?_
  refine q (mv rfl) ?_
  refine gT rfl rfl ?_
  refine q (mv rfl) ?_
  refine gT rfl rfl ?_
  refine q (sEql rfl rfl) ?_
  refine q (by first | exact pkT rfl rfl | exact pkF rfl rfl) ?_
  refine q (mv rfl) ?_
  refine gT rfl rfl ?_
  refine q (mv rfl) ?_
  refine gT rfl rfl ?_
  refine q (bEql rfl rfl) ?_
  refine q (by first | exact pkT rfl rfl | exact pkF rfl rfl) ?_
  refine q (mv rfl) ?_
  refine gT rfl rfl ?_
  refine q (mv rfl) ?_
  refine gT rfl rfl ?_
  refine q (bEql rfl rfl) ?_
  refine q (by first | exact pkT rfl rfl | exact pkF rfl rfl) ?_
  refine q (mv rfl) ?_
  refine gT rfl rfl ?_
  refine q (mv rfl) ?_
  refine gT rfl rfl ?_
  refine q (bEql rfl rfl) ?_
  refine q (by first | exact pkT rfl rfl | exact pkF rfl rfl) ?_
  refine q (asg rfl) ?_
  refine en ?_
  refine ret ?_
  exact finQ l rfl rfl (fun a => by simp only [cnt_append, cnt_cons, cnt_nil]; omega) ⟨rfl, rfl⟩
end Go.Proofs.Ytoecfgldnlglnaa

