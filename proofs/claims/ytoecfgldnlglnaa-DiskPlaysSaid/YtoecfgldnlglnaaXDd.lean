import Derived.Test.YtoecfgldnlglnaaXLib
set_option linter.unusedVariables false
set_option linter.unusedSimpArgs false
set_option maxRecDepth 20000
namespace Go.Proofs.Ytoecfgldnlglnaa
open Go Go.Wk Go.Wk.Dsk

theorem Fls.names {kv fs bl} (h : Fls kv fs bl) : kv.map (·.1) = fs.map (·.1) := by
  induction h with
  | nil => rfl
  | cons _ _ ih => simp only [List.map_cons, ih]
theorem Fls.length {kv fs bl} (h : Fls kv fs bl) : kv.length = fs.length := by simpa using congrArg List.length h.names
theorem dRecords {R d D l n} (hD : IsD d D l) (hs : Sd D.fs) (hr : (fileOf D n).recs.length ≤ 1000000000) :
    Tri Try.prog 23 [.pointer (some ⟨d, 0, none⟩), .string n] R l fun v l' => v = .tuple (List.toArray [.int .i64 (records D n).1, .int .i64 (records D n).2]) ∧ l' = l := by
  obtain ⟨m, kv, ck, bl, fs, rfl, hk, hF, hp⟩ := hD
  obtain ⟨s, bk, rst, e1, e2, e3, e4, e5, _⟩ := hF.at n
  rw [get_perm hp hs.nodup] at e1 e3
  change SlI 9 1 s ((fileOf D n).recs.map .string) bk at e3
  obtain ⟨p, k, cap, rfl, hlen⟩ := e3.len
  simp only [List.length_map, Nat.mul_one] at hlen
  refine enter Try.func23 rfl rfl (by kernel_rfl) rfl fun w0 => ?_
  refine seq ?_
  refine reg ?_
  refine q (asg rfl) ?_
  refine q (asg rfl) ?_
  refine en ?_
  refine seq ?_
  refine seq ?_
  refine reg ?_
  refine q (mv rfl) ?_
  refine cl fb48 rfl (dNone m0) ?_
  rintro v l' ⟨rfl, rfl⟩
  refine en ?_
  refine ifF rfl ?_
  refine skp (dSq ?_)
  refine seq ?_
  refine reg ?_
  refine q (mv rfl) ?_
  refine q (nck rfl) ?_
  refine q (fa fo100_0 rfl) ?_
  refine q (ld na98 rfl (by first | exact mR (by assumption) | repeat (first | assumption | exact m0 | apply mS | apply mA)) rfl) ?_
  refine q (mv rfl) ?_
  refine q ((lk Try.underlying98 (KeyT.str Try.underlying9) zr102 rfl rfl m1).to e1) ?_
  refine al zr102 rfl ?_
  intro b1
  refine stA sz102 rfl rfl rfl rfl (by repeat (first | exact .h | apply In.t | apply In.r)) (by repeat constructor) ?_
  refine en ?_
  refine seq ?_
  refine drw (by kernel_rfl) [(.q, 0), (.q, 1), (.q, 2), (.q, 3), (.q, 4), (.q, 5), (.q, 6)] _ rfl (by kernel_rfl) (by kernel_rfl) trivial ?_
  refine xq rfl (fa fo102_0 rfl) ?_
  refine xq rfl (ld na33 rfl (by first | exact mR (by assumption) | repeat (first | assumption | exact m0 | apply mS | apply mA)) rfl) ?_
  refine xq rfl (lnL Try.underlying33 rfl) ?_
  refine xq rfl (fa fo102_1 rfl) ?_
  refine xq rfl (ld na3 rfl (by first | exact mR (by assumption) | repeat (first | assumption | exact m0 | apply mS | apply mA)) rfl) ?_
  refine xq rfl (asg rfl) ?_
  refine xq rfl (asg rfl) ?_
  refine dSq ?_
  refine ret ?_
  exact finQT ((d, dO (some m) D.off D.fuse) :: (m, .map (ents strV kv) ck) :: bl) rfl rfl rfl (fun a => by simp only [cnt_append, cnt_cons, cnt_nil]; omega) ⟨by subst hlen; rfl, rfl⟩
theorem dList {R d D l} (hD : IsD d D l) (hs : Sd D.fs) (hn : D.fs.length ≤ 1000000000) (hz : ∀ n ∈ names D, n.size ≤ 1000000000) :
    Tri Try.prog 20 [.pointer (some ⟨d, 0, none⟩)] R l fun v l' => ∃ bk, SlO 9 1 v ((names D).map .string) bk ∧ l' = bk ++ l := by
  obtain ⟨m, kv, ck, bl, fs, rfl, hk, hF, hp⟩ := hD
  refine enter Try.func20 rfl rfl (by kernel_rfl) rfl fun w0 => ?_
  refine seq ?_
  refine reg ?_
  refine q (asg rfl) ?_
  refine en ?_
  refine seq ?_
  refine seq ?_
  refine reg ?_
  refine q (mv rfl) ?_
  refine cl fb48 rfl (dNone m0) ?_
  rintro v l' ⟨rfl, rfl⟩
  refine en ?_
  refine ifF rfl ?_
  refine skp (dSq ?_)
  refine seq ?_
  refine reg ?_
  refine q (mv rfl) ?_
  refine q (nck rfl) ?_
  refine q (fa fo100_0 rfl) ?_
  refine q (ld na98 rfl (by first | exact mR (by assumption) | repeat (first | assumption | exact m0 | apply mS | apply mA)) rfl) ?_
  refine cl fb51 rfl dKeys ?_
  rintro _ _ ⟨b1, rfl, rfl⟩
  have hnm : (kv.map (·.1)).Perm (names D) := by rw [hF.names]; exact hp.map _
  refine cl fb50 rfl (dSorted (ns := names D) m0 (mS (mS m0)) hk (by rw [hF.length, hp.length_eq]; exact hn) (fun n hn => hz n (hnm.mem_iff.1 hn)) hnm.symm (List.pairwise_map.2 hs)) ?_
  rintro v _ ⟨bk, hsl, rfl⟩
  refine q (asg rfl) ?_
  refine en ?_
  refine ret ?_
  exact finQ (bk ++ (d, dO (some m) D.off D.fuse) :: (m, .map (ents strV kv) ck) :: bl) rfl rfl (fun a => by simp only [cnt_append, cnt_cons, cnt_nil]; omega) ⟨bk, hsl, rfl⟩
theorem dRead {R d D l n} (hD : IsD d D l) (hs : Sd D.fs) (hr : (fileOf D n).recs.length ≤ 1000000000) (hb : (Dsk.bytes (fileOf D n)).size ≤ 1000000000) :
    Tri Try.prog 22 [.pointer (some ⟨d, 0, none⟩), .string n] R l fun v l' => v = .tuple (List.toArray [.string (Dsk.read D n).1, .int .i64 (Dsk.read D n).2]) ∧ l' = l := by
  obtain ⟨m, kv, ck, bl, fs, rfl, hk, hF, hp⟩ := hD
  obtain ⟨s, bk, rst, e1, e2, e3, e4, e5, _⟩ := hF.at n
  rw [get_perm hp hs.nodup] at e1 e2 e3
  change SlI 9 1 s ((fileOf D n).recs.map .string) bk at e3
  obtain ⟨p, k, cap, rfl, hlen⟩ := e3.len
  simp only [List.length_map, Nat.mul_one] at hlen
  refine enter Try.func22 rfl rfl (by kernel_rfl) rfl fun w0 => ?_
  refine seq ?_
  refine reg ?_
  refine q (asg rfl) ?_
  refine q (asg rfl) ?_
  refine en ?_
  refine seq ?_
  refine seq ?_
  refine reg ?_
  refine q (mv rfl) ?_
  refine cl fb53 rfl (dPower m0) ?_
  rintro v l' ⟨rfl, rfl⟩
  refine q (asg rfl) ?_
  refine en ?_
  refine seq ?_
  refine reg ?_
  refine q (mv rfl) ?_
  refine q (bNeq rfl rfl) ?_
  refine en ?_
  refine ifd rfl (fun h => ?_) (fun h => ?_)
  · refine seq ?_
    refine reg ?_
    refine q (mv rfl) ?_
    refine q (asg rfl) ?_
    refine q (asg rfl) ?_
    refine en ?_
    refine ret (dSr ?_)
    exact finQT ((d, dO (some m) D.off D.fuse) :: (m, .map (ents strV kv) ck) :: bl) rfl rfl rfl (fun a => by simp only [cnt_append, cnt_cons, cnt_nil]; omega) ⟨by cases ho : D.off <;> simp_all [pw, Dsk.read], rfl⟩
  · have hoff : D.off = false := by cases ho : D.off <;> simp_all [pw]
    refine skp (dSq ?_)
    refine seq ?_
    refine reg ?_
    refine q (mv rfl) ?_
    refine q (nck rfl) ?_
    refine q (fa fo100_0 rfl) ?_
    refine q (ld na98 rfl (by first | exact mR (by assumption) | repeat (first | assumption | exact m0 | apply mS | apply mA)) rfl) ?_
    refine q (mv rfl) ?_
    refine q ((lko Try.underlying98 (KeyT.str Try.underlying9) zr102 rfl rfl m1).to (by rw [e1, e2])) ?_
    refine q (mv rfl) ?_
    refine q (ext rfl rfl) ?_
    refine q (ext rfl rfl) ?_
    refine al zr102 rfl ?_
    intro b1
    refine stA sz102 rfl rfl rfl rfl (by repeat (first | exact .h | apply In.t | apply In.r)) (by repeat constructor) ?_
    refine q (asg rfl) ?_
    refine en ?_
    refine seq ?_
    refine seq ?_
    refine reg ?_
    refine q (mv rfl) ?_
    refine q (by first | exact bNotd rfl | exact bNot rfl) ?_
    refine en ?_
    refine ifb rfl (fun h => ?_) (fun h => ?_)
    · refine seq ?_
      refine reg ?_
      refine q (asg rfl) ?_
      refine q (asg rfl) ?_
      refine en ?_
      refine ret (dSr ?_)
      exact finQT ((d, dO (some m) D.off D.fuse) :: (m, .map (ents strV kv) ck) :: bl) rfl rfl rfl (fun a => by simp only [cnt_append, cnt_cons, cnt_nil]; omega) ⟨by cases hg0 : Dsk.get D.fs n <;> simp_all [Dsk.read], rfl⟩
    · obtain ⟨f, hgf⟩ : ∃ f, Dsk.get D.fs n = some f := by cases hg0 : Dsk.get D.fs n <;> simp_all
      have hfo : fileOf D n = f := by simp [fileOf, hgf]
      have hrd : Dsk.read D n = (joined f.recs ++ f.torn, 0) := by simp [Dsk.read, hoff, hgf, Dsk.bytes]
      rw [hfo] at e3 hr hb
      have hsz : (joined f.recs).size + f.torn.size ≤ 1000000000 := by simpa [Dsk.bytes] using hb
      simp only [hgf, Option.getD_some]
      refine skp (dSq ?_)
      refine seq ?_
      refine drw (by kernel_rfl) [(.q, 0), (.q, 1), (.q, 3), (.q, 4), (.b, 2), (.q, 5), (.q, 6), (.q, 7)] _ rfl (by kernel_rfl) (by kernel_rfl) trivial ?_
      refine xq rfl (fa fo102_0 rfl) ?_
      refine xq rfl (ld na33 rfl (by first | exact mR (by assumption) | repeat (first | assumption | exact m0 | apply mS | apply mA)) rfl) ?_
      refine xq rfl (fa fo102_3 rfl) ?_
      refine xq rfl (ld na9 rfl (by first | exact mR (by assumption) | repeat (first | assumption | exact m0 | apply mS | apply mA)) rfl) ?_
      refine xb rfl (eCl fb54 rfl (fun F => dJoin (xs := f.recs) e3 (fun x hx => .inr (by have := e4.mem_iff.2 (List.mem_append_left rst hx); simp [this])) (by omega) (by omega))) (fun v l' h => ⟨[], h.2⟩) ?_
      rintro _ _ ⟨rfl, rfl⟩
      refine xq rfl (sAdd rfl rfl (by omega)) ?_
      refine xq rfl (asg rfl) ?_
      refine xq rfl (asg rfl) ?_
      refine dSq ?_
      refine ret ?_
      exact finQT ((d, dO (some m) D.off D.fuse) :: (m, .map (ents strV kv) ck) :: bl) rfl rfl rfl (fun a => by simp only [cnt_append, cnt_cons, cnt_nil]; omega) ⟨by rw [hrd], rfl⟩
end Go.Proofs.Ytoecfgldnlglnaa

