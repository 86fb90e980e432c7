import Derived.Test.YtoecfgldnlglnaaXDa
import Derived.Test.YtoecfgldnlglnaaXDskP
set_option linter.unusedVariables false
set_option linter.unusedSimpArgs false
set_option maxRecDepth 20000
namespace Go.Proofs.Ytoecfgldnlglnaa
open Go Go.Wk Go.Wk.Dsk

def fileV (s : Value) (f : File) : List Value := [s, .int .i64 f.synced, .bool f.cut, .string f.torn]
/-- A map's entries stand for files; and the blocks of their records. -/
inductive Fls : Kv ByteArray → Fs → Bl → Prop
  | nil : Fls [] [] []
  | cons {s n f t bk kv fs bl} : SlI 9 1 s (f.recs.map .string) bk → Fls kv fs bl → Fls ((n, .agg (fileV s f).toArray, t) :: kv) ((n, f) :: fs) (bk ++ bl)
def IsD (d : Nat) (D : DM) (l : Bl) : Prop :=
  ∃ m kv ck bl fs, l = (d, dO (some m) D.off D.fuse) :: (m, .map (ents strV kv) ck) :: bl ∧ KvOk kv ck ∧ Fls kv fs bl ∧ fs.Perm D.fs

theorem dNew {R l} : Tri Try.prog 15 [] R l fun v l' => ∃ d l1, v = .pointer (some ⟨d, 0, none⟩) ∧ IsD d new l1 ∧ l' = l1 ++ l := by
  refine enter Try.func15 rfl rfl (by kernel_rfl) rfl fun w0 => ?_
  refine seq ?_
  refine reg ?_
  refine q (asg rfl) ?_
  refine en ?_
  refine seq ?_
  refine reg ?_
  refine mkM ?_
  intro b1
  refine q (bd pl100 rfl (.c1 rfl (by decide) rfl (by repeat constructor) .n)) ?_
  refine bx rfl rfl ?_
  intro b2
  refine q (asg rfl) ?_
  refine en ?_
  refine ret ?_
  refine fin0 rfl rfl ⟨b2, _, rfl, ⟨b1, [], 0, [], [], rfl, KvOk.nil, .nil, .nil⟩, rfl⟩
theorem dStart {R l d m off fuse l'} (hi : In l d (dO (some m) off fuse) (dO (some m) false fuse) l') : Tri Try.prog 17 [.pointer (some ⟨d, 0, none⟩)] R l fun v l'' => v = .tuple #[] ∧ l'' = l' := by
  obtain ⟨A, B, rfl, rfl⟩ := hi.eq
  refine enter Try.func17 rfl rfl (by kernel_rfl) rfl fun w0 => ?_
  refine seq ?_
  refine reg ?_
  refine q (mv rfl) ?_
  refine cl fb48 rfl (dNone (mA m0)) ?_
  rintro v l' ⟨rfl, rfl⟩
  refine q (by first | exact bNotd rfl | exact bNot rfl) ?_
  refine en ?_
  refine ifT rfl ?_
  refine reg ?_
  refine q (mv rfl) ?_
  refine q (nck rfl) ?_
  refine q (fa fo100_1 rfl) ?_
  refine st sz4 rfl rfl rfl (by repeat (first | exact .h | apply In.t | apply In.r)) (by repeat constructor) ?_
  refine enD ?_
  exact finN rfl ⟨rfl, rfl⟩
theorem dFuse {R l d m off fuse n l'} (hi : In l d (dO (some m) off fuse) (dO (some m) off (max n 0)) l') : Tri Try.prog 18 [.pointer (some ⟨d, 0, none⟩), .int .i64 n] R l fun v l'' => v = .tuple #[] ∧ l'' = l' := by
  obtain ⟨A, B, rfl, rfl⟩ := hi.eq
  refine enter Try.func18 rfl rfl (by kernel_rfl) rfl fun w0 => ?_
  refine seq ?_
  refine reg ?_
  refine q (mv rfl) ?_
  refine cl fb48 rfl (dNone (mA m0)) ?_
  rintro v l' ⟨rfl, rfl⟩
  refine q (by first | exact bNotd rfl | exact bNot rfl) ?_
  refine en ?_
  refine ifT rfl ?_
  refine reg ?_
  refine q (mv rfl) ?_
  refine q (mv rfl) ?_
  refine q (mx2 rfl rfl) ?_
  refine q (nck rfl) ?_
  refine q (fa fo100_2 rfl) ?_
  refine st sz3 rfl rfl rfl (by repeat (first | exact .h | apply In.t | apply In.r)) (by repeat constructor) ?_
  refine enD ?_
  exact finN rfl ⟨rfl, rfl⟩
theorem dBurns {R l d m fuse l'} (hf : fuse ≤ 9223372036854775807) (hi : In l d (dO (some m) false fuse) (dO (some m) (burn ⟨[], false, fuse⟩).off (burn ⟨[], false, fuse⟩).fuse) l') : Tri Try.prog 56 [.pointer (some ⟨d, 0, none⟩)] R l fun v l'' => v = .int .i64 (pw (burn ⟨[], false, fuse⟩).off) ∧ l'' = l' := by
  obtain ⟨A, B, rfl, rfl⟩ := hi.eq
  by_cases h0 : 0 < fuse
  · have hb : burn ⟨[], false, fuse⟩ = ⟨[], decide (fuse - 1 = 0), fuse - 1⟩ := by simp [burn, h0]
    rw [hb]
    refine enter Try.func56 rfl rfl (by kernel_rfl) rfl fun w0 => ?_
    refine seq ?_
    refine reg ?_
    refine q (asg rfl) ?_
    refine en ?_
    refine seq ?_
    refine seq ?_
    refine reg ?_
    refine q (mv rfl) ?_
    refine q (nck rfl) ?_
    refine q (fa fo100_2 rfl) ?_
    refine q (ld na3 rfl (by first | exact mR (by assumption) | repeat (first | assumption | exact m0 | apply mS | apply mA)) rfl) ?_
    refine q (bGtr rfl rfl) ?_
    refine en ?_
    refine ifd rfl (fun h => ?_) (fun h => ?_)
    · refine seq ?_
      refine reg ?_
      refine q (mv rfl) ?_
      refine q (nck rfl) ?_
      refine q (fa fo100_2 rfl) ?_
      refine q (ld na3 rfl (by first | exact mR (by assumption) | repeat (first | assumption | exact m0 | apply mS | apply mA)) rfl) ?_
      refine q (by first | exact bSubi rfl rfl (by omega) | exact bSub rfl rfl) ?_
      refine q (nck rfl) ?_
      refine q (fa fo100_2 rfl) ?_
      refine st sz3 rfl rfl rfl (by repeat (first | exact .h | apply In.t | apply In.r)) (by repeat constructor) ?_
      refine en ?_
      refine reg ?_
      refine q (mv rfl) ?_
      refine q (mv rfl) ?_
      refine q (nck rfl) ?_
      refine q (fa fo100_2 rfl) ?_
      refine q (ld na3 rfl (by first | exact mR (by assumption) | repeat (first | assumption | exact m0 | apply mS | apply mA)) rfl) ?_
      refine q (bEql rfl rfl) ?_
      refine q (nck rfl) ?_
      refine q (fa fo100_1 rfl) ?_
      refine st sz4 rfl rfl rfl (by repeat (first | exact .h | apply In.t | apply In.r)) (by repeat constructor) ?_
      refine en ?_
      refine seq ?_
      refine reg ?_
      refine q (mv rfl) ?_
      refine cl fb53 rfl (dPower (mA m0)) ?_
      rintro v l' ⟨rfl, rfl⟩
      refine q (asg rfl) ?_
      refine en ?_
      refine ret ?_
      exact fin0 rfl rfl ⟨rfl, rfl⟩
    · exact absurd h0 h
  · have hb : burn ⟨[], false, fuse⟩ = ⟨[], false, fuse⟩ := by simp [burn, h0]
    rw [hb]
    refine enter Try.func56 rfl rfl (by kernel_rfl) rfl fun w0 => ?_
    refine seq ?_
    refine reg ?_
    refine q (asg rfl) ?_
    refine en ?_
    refine seq ?_
    refine seq ?_
    refine reg ?_
    refine q (mv rfl) ?_
    refine q (nck rfl) ?_
    refine q (fa fo100_2 rfl) ?_
    refine q (ld na3 rfl (by first | exact mR (by assumption) | repeat (first | assumption | exact m0 | apply mS | apply mA)) rfl) ?_
    refine q (bGtr rfl rfl) ?_
    refine en ?_
    refine ifd rfl (fun h => ?_) (fun h => ?_)
    · exact absurd h h0
    · refine skp (dSq ?_)
      refine seq ?_
      refine reg ?_
      refine q (mv rfl) ?_
      refine cl fb53 rfl (dPower (mA m0)) ?_
      rintro v l' ⟨rfl, rfl⟩
      refine q (asg rfl) ?_
      refine en ?_
      refine ret ?_
      exact fin0 rfl rfl ⟨rfl, rfl⟩

theorem burn_off {D : DM} (h : D.off = false) : (burn ⟨[], false, D.fuse⟩).off = (burn D).off ∧ (burn ⟨[], false, D.fuse⟩).fuse = (burn D).fuse := by
  unfold burn
  by_cases h0 : 0 < D.fuse
  · simp [h0]
  · simp [h0]; exact h
theorem burn_fs (D : DM) : (burn D).fs = D.fs := by unfold burn; split <;> rfl
theorem dBurnsD {R l d m l'} {D : DM} (hoff : D.off = false) (hf : D.fuse ≤ 9223372036854775807) (hi : In l d (dO (some m) false D.fuse) (dO (some m) (burn D).off (burn D).fuse) l') : Tri Try.prog 56 [.pointer (some ⟨d, 0, none⟩)] R l fun v l'' => v = .int .i64 (pw (burn D).off) ∧ l'' = l' := by
  obtain ⟨h1, h2⟩ := burn_off hoff
  rw [← h1, ← h2] at hi
  rw [← h1]
  exact dBurns hf hi
theorem dRight' {R l} (s : ByteArray) (hs : s.size ≤ 1000000000000) : Tri Try.prog 55 [.string s] R l fun v l' => v = .bool (right s) ∧ l' = l := dRight s hs
/-- slices.Clip -/
theorem dClip {R l n cap} {p : Option Addr} (h : n ≤ cap) (hm : n ≤ 9223372036854775807) : Tri Try.prog 57 [.slice p n cap] R l fun v l' => v = .slice p n n ∧ l' = l := by
  refine enter Try.func57 rfl rfl (by kernel_rfl) rfl fun w0 => ?_
  refine seq ?_
  refine reg ?_
  refine q (asg rfl) ?_
  refine en ?_
  refine seq ?_
  refine reg ?_
  refine q (mv rfl) ?_
  refine q (mv rfl) ?_
  refine q (lnL Try.underlying33 rfl) ?_
  refine q (mv rfl) ?_
  refine q (lnL Try.underlying33 rfl) ?_
  refine q (Sp.to (slS (L := 0) (H := n) (M := n) Try.underlying33 sz9 rfl rfl rfl rfl (fun _ => rfl) (Nat.zero_le _) (Nat.le_refl _) h) (u := .slice p n n) (by split <;> simp [Addr.add])) ?_
  refine q (asg rfl) ?_
  refine en ?_
  refine ret ?_
  exact fin0 rfl rfl ⟨rfl, rfl⟩
theorem Fls.at {kv fs bl} (h : Fls kv fs bl) (n : ByteArray) : ∃ s bk rest, (getK kv n).getD (.agg (List.toArray [.slice none 0 0, .int .i64 0, .bool false, .string ⟨#[]⟩])) = .agg (fileV s ((Dsk.get fs n).getD File.none)).toArray ∧ (getK kv n).isSome = (Dsk.get fs n).isSome ∧
    SlI 9 1 s (((Dsk.get fs n).getD File.none).recs.map .string) bk ∧ bl.Perm (bk ++ rest) ∧
    (∀ s' f' bk' t, SlI 9 1 s' (f'.recs.map .string) bk' → ∃ bl', Fls (setK kv n (.agg (fileV s' f').toArray) t) (setF fs n f') bl' ∧ bl'.Perm (bk' ++ rest)) ∧
    ∃ bl', Fls (delK kv n) (drop fs n) bl' ∧ bl'.Perm rest := by
  induction h with
  | nil =>
    refine ⟨.slice none 0 0, [], [], rfl, rfl, .emp (fun _ => rfl), List.Perm.refl _, fun s' f' bk' t hs => ⟨bk' ++ [], .cons hs .nil, List.Perm.refl _⟩, [], .nil, List.Perm.refl _⟩
  | @cons s m f t bk kv fs bl hs hf ih =>
    by_cases e : n = m
    · subst e
      refine ⟨s, bk, bl, by simp [getK, Dsk.get], by simp [getK, Dsk.get], by simpa [Dsk.get] using hs, List.Perm.refl _, fun s' f' bk' t' hs' => ⟨bk' ++ bl, by simp only [setK, setF, if_true]; exact .cons hs' hf, List.Perm.refl _⟩, bl, by simpa [delK, drop] using hf, List.Perm.refl _⟩
    · obtain ⟨s1, bk1, rest, h1, h2, h3, h4, h5, bl2, h6, h7⟩ := ih
      have p4 : (bk ++ bl).Perm (bk1 ++ (bk ++ rest)) := permC fun a => by simp only [cnt_append, h4.cnt a]; omega
      refine ⟨s1, bk1, bk ++ rest, by simpa [getK, Dsk.get, e] using h1, by simpa [getK, Dsk.get, e] using h2, by simpa [Dsk.get, e] using h3, p4, fun s' f' bk' t' hs' => ?_, bk ++ bl2, by simp only [delK, drop, if_neg e]; exact .cons hs h6, h7.append_left bk⟩
      obtain ⟨bl', h8, h9⟩ := h5 s' f' bk' t' hs'
      exact ⟨bk ++ bl', by simp only [setK, setF, if_neg e]; exact .cons hs h8, permC fun a => by simp only [cnt_append, h9.cnt a]; omega⟩
theorem inf9 : Inf Try.prog 9 (.string ⟨#[]⟩) 1 16 := by unfold Inf; kernel_rfl
theorem z9 : ∃ zv, Zr Try.prog 9 zv ∧ ((Array.range (1 * 1)).map (zv.cells[· % zv.cells.size]!)) = [Value.string ⟨#[]⟩].toArray := ⟨_, zr9, by kernel_rfl⟩
theorem dAppend {R d D l n r} (hD : IsD d D l) (hs : Sd D.fs) (hn : n.size ≤ 1000000000000) (hf : D.fuse ≤ 9223372036854775807) (hr : (fileOf D n).recs.length ≤ 1000000000) :
    Tri Try.prog 24 [.pointer (some ⟨d, 0, none⟩), .string n, .string r] R l fun v l' => v = .int .i64 (append D n r).1 ∧ IsD d (append D n r).2 l' := by
  have hD' := hD
  obtain ⟨m, kv, ck, bl, fs, rfl, hk, hF, hp⟩ := hD'
  obtain ⟨s, bk, rst, e1, e2, e3, e4, e5, _⟩ := hF.at n
  rw [get_perm hp hs.nodup] at e1 e3
  change SlI 9 1 s ((fileOf D n).recs.map .string) bk at e3
  obtain ⟨p, k, cap, rfl, hlen⟩ := e3.len
  obtain ⟨c1, c2⟩ := e3.clip
  simp only [List.length_map, Nat.mul_one] at hlen
  refine enter Try.func24 rfl rfl (by kernel_rfl) rfl fun w0 => ?_
  refine seq ?_
  refine reg ?_
  refine q (asg rfl) ?_
  refine en ?_
  refine seq ?_
  refine seq ?_
  refine reg ?_
  refine q (mv rfl) ?_
  refine cl fb53 rfl (dPower m0) ?_
  rintro v l' ⟨rfl, rfl⟩
  refine q (asg rfl) ?_
  refine en ?_
  refine seq ?_
  refine reg ?_
  refine q (mv rfl) ?_
  refine q (bNeq rfl rfl) ?_
  refine en ?_
  refine ifd rfl (fun h => ?_) (fun h => ?_)
  · refine seq ?_
    refine reg ?_
    refine q (mv rfl) ?_
    refine q (asg rfl) ?_
    refine en ?_
    refine ret (dSr ?_)
    exact fin0 rfl rfl ⟨by cases ho : D.off <;> simp_all [pw, append], by cases ho : D.off <;> simp_all [pw, append]⟩
  · have hoff : D.off = false := by cases ho : D.off <;> simp_all [pw]
    refine skp (dSq ?_)
    refine seq ?_
    refine reg ?_
    refine q (mv rfl) ?_
    refine q (nck rfl) ?_
    refine q (fa fo100_0 rfl) ?_
    refine q (ld na98 rfl (by first | exact mR (by assumption) | repeat (first | assumption | exact m0 | apply mS | apply mA)) rfl) ?_
    refine q (mv rfl) ?_
    refine q ((lk Try.underlying98 (KeyT.str Try.underlying9) zr102 rfl rfl m1).to e1) ?_
    refine al zr102 rfl ?_
    intro b1
    refine stA sz102 rfl rfl rfl rfl (by repeat (first | exact .h | apply In.t | apply In.r)) (by repeat constructor) ?_
    refine en ?_
    refine seq ?_
    refine blk ?_
    refine seq ?_
    refine reg ?_
    refine q (mv rfl) ?_
    refine cl fb55 rfl (dRight' n hn) ?_
    rintro v l' ⟨rfl, rfl⟩
    refine q (by first | exact bNotd rfl | exact bNot rfl) ?_
    refine q (mv rfl) ?_
    refine dec (t := 25) rfl (fun h => ?_) (fun h => ?_)
    · refine gF rfl rfl rfl ?_
      refine gF rfl rfl rfl ?_
      refine q (by first | exact pkT rfl rfl | exact pkF rfl rfl) ?_
      refine q (asg rfl) ?_
      refine en ?_
      refine ifT rfl ?_
      refine seq ?_
      refine reg ?_
      refine q (asg rfl) ?_
      refine en ?_
      refine ret (dBr (dSr ?_))
      have hrn : right n = false := by simpa [right, Decidable.imp_iff_not_or] using h
      have hA : append D n r = (1, D) := by simp [append, hoff, hrn]
      rw [hA]
      exact finQ ((d, dO (some m) D.off D.fuse) :: (m, .map (ents strV kv) ck) :: bl) rfl rfl (fun a => by simp only [cnt_append, cnt_cons, cnt_nil]; omega) ⟨rfl, hD⟩
    · refine gT rfl rfl ?_
      refine q (mv rfl) ?_
      refine gT rfl rfl ?_
      refine q (sEql rfl rfl) ?_
      refine q (by first | exact pkT rfl rfl | exact pkF rfl rfl) ?_
      refine q (asg rfl) ?_
      refine en ?_
      have hrn : right n = true := by simpa [right] using h
      refine ifd rfl (fun h => ?_) (fun h => ?_)
      · refine seq ?_
        refine reg ?_
        refine q (asg rfl) ?_
        refine en ?_
        refine ret (dBr (dSr ?_))
        have hA : append D n r = (1, D) := by simp [append, hoff, h]
        rw [hA]
        exact finQ ((d, dO (some m) D.off D.fuse) :: (m, .map (ents strV kv) ck) :: bl) rfl rfl (fun a => by simp only [cnt_append, cnt_cons, cnt_nil]; omega) ⟨rfl, hD⟩
      · have hrr := h
        refine seq ?_
        refine reg ?_
        refine q (fa fo102_2 rfl) ?_
        refine q (ld na4 rfl (by first | exact mR (by assumption) | repeat (first | assumption | exact m0 | apply mS | apply mA)) rfl) ?_
        refine q (asg rfl) ?_
        refine en ?_
        refine ifb rfl (fun h => ?_) (fun h => ?_)
        · refine seq ?_
          refine reg ?_
          refine q (asg rfl) ?_
          refine en ?_
          refine ret (dBr (dSr ?_))
          have hA : append D n r = (9, D) := by simp [append, hoff, hrn, hrr, fileOf, h]
          rw [hA]
          exact finQ ((d, dO (some m) D.off D.fuse) :: (m, .map (ents strV kv) ck) :: bl) rfl rfl (fun a => by simp only [cnt_append, cnt_cons, cnt_nil]; omega) ⟨rfl, hD⟩
        · have hcut : (fileOf D n).cut = false := h
          refine skp (dBn (dSq ?_))
          refine seq ?_
          refine seq ?_
          refine reg ?_
          refine q (mv rfl) ?_
          rw [hoff]
          refine cl fb56 rfl ((dBurnsD hoff hf (.t .h))) ?_
          rintro v l' ⟨rfl, rfl⟩
          refine q (asg rfl) ?_
          refine en ?_
          refine seq ?_
          refine reg ?_
          refine q (mv rfl) ?_
          refine q (bNeq rfl rfl) ?_
          refine en ?_
          have hB := burn_fs D
          refine ifd rfl (fun h => ?_) (fun h => ?_)
          · have hpw : (burn D).off = true := by simpa [pw] using h
            refine seq ?_
            refine reg ?_
            refine q (mv rfl) ?_
            refine q (asg rfl) ?_
            refine en ?_
            refine ret (dSr ?_)
            have hA : append D n r = (7, burn D) := by simp [append, hoff, hrn, hrr, hcut, hpw]
            rw [hA]
            exact finQ ((d, dO (some m) (burn D).off (burn D).fuse) :: (m, .map (ents strV kv) ck) :: bl) rfl rfl (fun a => by simp only [cnt_append, cnt_cons, cnt_nil]; omega) ⟨by rw [hpw]; rfl, m, kv, ck, bl, fs, rfl, hk, hF, by rw [hB]; exact hp⟩
          · have hpw : (burn D).off = false := by simpa [pw] using h
            have hA : append D n r = (0, { burn D with fs := put D.fs n { fileOf D n with recs := (fileOf D n).recs ++ [r] } }) := by simp [append, hoff, hrn, hrr, hcut, hpw]
            rw [hA]
            refine skp (dSq ?_)
            refine seq ?_
            refine reg ?_
            refine q (fa fo102_0 rfl) ?_
            refine q (ld na33 rfl (by first | exact mR (by assumption) | repeat (first | assumption | exact m0 | apply mS | apply mA)) rfl) ?_
            refine cl fb57 rfl ((dClip c2 (by omega))) ?_
            rintro v l' ⟨rfl, rfl⟩
            refine q (mv rfl) ?_
            refine eo (eBs Try.underlying33 sz9 z9 ⟨by decide, by decide⟩ rfl (.c1 rfl (by decide) rfl .z .n)) ?_
            rintro _ _ ⟨b2, rfl, rfl⟩
            have hbk : ∀ x ∈ bk, Has R bl x.1 x.2 := fun x hx => .inr (e4.mem_iff.2 (List.mem_append_left _ hx))
            refine eo (eApG Try.underlying33 inf9 rfl rfl c1 (.blk (pre := []) (xs := [.string r]) (sp := []) rfl rfl (Nat.le_refl _)) (fun x hx => by repeat first | exact hbk x hx | apply mS) (fun x hx => by obtain rfl := List.mem_singleton.1 hx; exact m0) (by decide) (by omega) (by omega) (by omega) rfl) ?_
            rintro _ _ ⟨b3, nc, sp, rfl, rfl, hnc, hl3⟩
            refine q (fa fo102_0 rfl) ?_
            refine st sz33 rfl rfl rfl (by repeat (first | exact .h | apply In.t | apply In.r)) (by repeat constructor) ?_
            refine en ?_
            refine seq ?_
            refine drw (by kernel_rfl) [(.q, 0), (.q, 1), (.q, 2), (.q, 3), (.q, 4), (.q, 5), (.s, 6)] _ rfl (by kernel_rfl) (by kernel_rfl) trivial ?_
            refine xq rfl (mv rfl) ?_
            refine xq rfl (nck rfl) ?_
            refine xq rfl (fa fo100_0 rfl) ?_
            refine xq rfl (ld na98 rfl (by first | exact mR (by assumption) | repeat (first | assumption | exact m0 | apply mS | apply mA)) rfl) ?_
            refine xq rfl (mv rfl) ?_
            refine xq rfl (ldA ag102 rfl (by first | exact mR (by assumption) | repeat (first | assumption | exact m0 | apply mS | apply mA)) (by repeat constructor)) ?_
            refine xs rfl (eUp Try.underlying98 (KeyT.str Try.underlying9) rfl rfl rfl (.t (.t (.t (.t .h))))) ?_
            rintro _ _ rfl
            refine dSq ?_
            refine seq ?_
            refine reg ?_
            refine q (asg rfl) ?_
            refine en ?_
            refine ret ?_
            have hsl : SlI 9 1 (.slice (some ⟨b3, 0, none⟩) (k + 1) nc) (((fileOf D n).recs ++ [r]).map Value.string) [(b3, .cells ([] ++ ((fileOf D n).recs ++ [r]).map Value.string ++ sp).toArray 9 (0, 0))] := .blk (by simp [hlen]) rfl hnc
            obtain ⟨bl', f1, f2⟩ := e5 _ { fileOf D n with recs := (fileOf D n).recs ++ [r] } _ ck hsl
            exact finQ ((d, dO (some m) (burn D).off (burn D).fuse) :: (m, .map (ents strV (setK kv n (.agg (fileV (.slice (some ⟨b3, 0, none⟩) (k + 1) nc) { fileOf D n with recs := (fileOf D n).recs ++ [r] }).toArray) ck)) (ckK kv n ck)) :: bl') rfl rfl
              (fun a => by have := e4.cnt a; have := f2.cnt a; simp only [cnt_append, cnt_cons, cnt_nil, List.nil_append, List.map_append, List.map_cons, List.map_nil, fileV, fileOf] at *; omega)
              ⟨rfl, m, _, _, bl', _, rfl, hk.set _ _, f1, put_setF hp hs _ _⟩
end Go.Proofs.Ytoecfgldnlglnaa

