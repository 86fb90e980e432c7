import Derived.Test.YtoecfgldnlglnaaXDd
set_option linter.unusedVariables false
set_option linter.unusedSimpArgs false
set_option maxRecDepth 20000
namespace Go.Wk
open Go
/-- A slice that may be read: its elements. -/
def SlV (sz : Nat) (R : Rd) (v : Value) (xs : List Value) : Prop :=
  ∃ (p : Option Addr) (n cap : Nat), v = .slice p n cap ∧ xs.length = n * sz ∧ (n = 0 ∨ ∃ (b o : Nat) (cs : List Value) (E : TypeId) (fz : Nat × Nat), p = some ⟨b, o, none⟩ ∧ R b (.cells (List.toArray cs) E fz) ∧ ∀ j, j < n * sz → cs[o + j]? = xs[j]?)
theorem SlV.len {sz R v xs} (h : SlV sz R v xs) : ∃ p n cap, v = .slice p n cap ∧ xs.length = n * sz :=
  let ⟨p, n, cap, e, h1, _⟩ := h; ⟨p, n, cap, e, h1⟩
theorem SlV.mono {sz R R' v xs} (hR : ∀ b o, R b o → R' b o) (h : SlV sz R v xs) : SlV sz R' v xs := by
  obtain ⟨p, n, cap, e, h1, h2⟩ := h
  refine ⟨p, n, cap, e, h1, h2.imp id ?_⟩
  rintro ⟨b, o, cs, E, fz, h3, h4, h5⟩
  exact ⟨b, o, cs, E, fz, h3, hR _ _ h4, h5⟩
theorem SlI.toV {E sz v xs bk} {R : Rd} (h : SlI E sz v xs bk) (hb : ∀ x ∈ bk, R x.1 x.2) : SlV sz R v xs := by
  cases h with
  | emp _ => exact ⟨_, 0, _, rfl, by simp, .inl rfl⟩
  | @blk b pre _ sp cap n o h1 h2 h3 =>
    refine ⟨_, n, cap, rfl, h1, .inr ⟨b, o, _, E, (0, 0), rfl, hb _ (List.mem_singleton.2 rfl), fun j hj => ?_⟩⟩
    rw [List.getElem?_append_left (by simp; omega), List.getElem?_append_right (by omega), h2, Nat.add_sub_cancel_left]
theorem SlV.at1 {R n cap p xs} (h : SlV 1 R (.slice p n cap) xs) {i : Nat} {v : Value} (hx : xs[i]? = some v) : ∃ b o cs E fz, p = some ⟨b, o, none⟩ ∧ i < n ∧ R b (.cells (List.toArray cs) E fz) ∧ cs[o + (i : Int).toNat * 1]? = some v := by
  obtain ⟨p, n, cap, e, h1, h2⟩ := h
  cases e
  have hl : i < xs.length := (List.getElem?_eq_some_iff.1 hx).1
  rcases h2 with rfl | ⟨b, o, cs, E, fz, h3, h4, h5⟩
  · omega
  · refine ⟨b, o, cs, E, fz, h3, by omega, h4, ?_⟩
    rw [Int.toNat_natCast, Nat.mul_one, h5 i (by omega), hx]
end Go.Wk
namespace Go.Proofs.Ytoecfgldnlglnaa
open Go Go.Wk Go.Wk.Dsk

theorem _root_.Go.Wk.SlI.at1 {E n cap p xs bk} (h : SlI E 1 (.slice p n cap) xs bk) {i : Nat} {v : Value} (hx : xs[i]? = some v) : ∃ b o cs, p = some ⟨b, o, none⟩ ∧ i < n ∧ bk = [(b, .cells (List.toArray cs) E (0, 0))] ∧ cs[o + (i : Int).toNat * 1]? = some v := by
  have hl : i < xs.length := (List.getElem?_eq_some_iff.1 hx).1
  cases h with
  | emp _ => simp at hx
  | @blk b pre _ sp cap n o h1 h2 h3 =>
    refine ⟨b, o, _, rfl, by omega, rfl, ?_⟩
    rw [Int.toNat_natCast, Nat.mul_one, List.getElem?_append_left (by simp; omega), List.getElem?_append_right (by omega), h2, Nat.add_sub_cancel_left, hx]
/-- How much a crash keeps, as the program reckons it. -/
def keepI (f : File) (keep : List Int) (k : Nat) : Int := match keep[k]? with
  | some x => min (max x 0) ((f.recs.length : Int) - f.synced)
  | .none => 0
theorem keepI_eq {f : File} (h0 : f.synced ≤ f.recs.length) (keep k) : keepI f keep k = keepN f keep k ∧ keepN f keep k ≤ f.recs.length - f.synced := by
  unfold keepI keepN
  cases keep[k]? with
  | none => simp
  | some x => simp only; omega
theorem tornN_ok (r : ByteArray) (x : Int) (h : 0 < r.size) : (if x.tmod r.size < 0 then x.tmod r.size + r.size else x.tmod r.size) = (tornN r x : Int) ∧ tornN r x ≤ r.size ∧ -(r.size : Int) < x.tmod r.size ∧ x.tmod r.size < r.size := by
  have h1 : x.tmod r.size < r.size := Int.tmod_lt_of_pos _ (by omega)
  have h2 : -(r.size : Int) < x.tmod r.size := Int.lt_tmod_of_pos _ (by omega)
  unfold tornN
  simp only
  generalize x.tmod r.size = y at *
  split <;> omega
theorem fCrash {R l s f bk sk st keep torn} {k : Nat} (hs : SlI 9 1 s (f.recs.map .string) bk) (hb : ∀ x ∈ bk, Has R l x.1 x.2) (hk : SlV 1 R sk (keep.map (.int .i64))) (ht : SlV 1 R st (torn.map (.int .i64)))
    (h0 : f.synced ≤ f.recs.length) (hr : f.recs.length ≤ 1000000000) (hkl : keep.length ≤ 1000000000) (htl : torn.length ≤ 1000000000) (hkk : k ≤ 1000000000) (hne : ∀ r ∈ f.recs, 0 < r.size ∧ r.size ≤ 1000000000)
    (htI : ∀ x ∈ torn, -9223372036854775808 ≤ x ∧ x ≤ 9223372036854775807) :
    Tri Try.prog 52 [.agg (fileV s f).toArray, .agg (List.toArray [sk, st]), .int .i64 k] R l fun v l' => ∃ s', v = .agg (fileV s' (crashF f keep torn k)).toArray ∧ SlI 9 1 s' ((crashF f keep torn k).recs.map .string) bk ∧ l' = l := by
  obtain ⟨hK, hK'⟩ := keepI_eq h0 keep k
  obtain ⟨p, n, cap, rfl, hlen⟩ := hs.len
  obtain ⟨pk, nk, capk, rfl, hlk⟩ := hk.len
  obtain ⟨pt, nt, capt, rfl, hlt⟩ := ht.len
  simp only [List.length_map, Nat.mul_one] at hlen hlk hlt
  unfold fileV
  obtain ⟨L, hL⟩ : ∃ L, L = f.synced + keepN f keep k := ⟨_, rfl⟩
  have hLn : L ≤ n := by omega
  have hcap := hs.clip.2
  have hsL : SlI 9 1 (.slice p L L) ((f.recs.take L).map .string) bk := by
    obtain ⟨bk', h1, h2⟩ := hs.take (k := L) hLn
    rw [Nat.mul_one, ← List.map_take] at h1
    exact h2 ▸ h1.clip.1
  refine enter Try.func52 rfl rfl (by kernel_rfl) rfl fun w0 => ?_
  refine seq ?_
  refine reg ?_
  refine bx rfl rfl ?_
  intro b1
  refine bx rfl rfl ?_
  intro b2
  refine al zr102 rfl ?_
  intro b3
  refine en ?_
  refine seq ?_
  refine reg ?_
  refine q (asg rfl) ?_
  refine en ?_
  refine seq ?_
  refine seq ?_
  refine reg ?_
  refine q (mv rfl) ?_
  refine q (fa fo25_0 rfl) ?_
  refine q (ld na23 rfl (by first | exact mR (by assumption) | repeat (first | assumption | exact m0 | apply mS | apply mA)) (by first | rfl | assumption)) ?_
  refine q (lnL Try.underlying23 rfl) ?_
  refine q (bLss rfl rfl) ?_
  refine en ?_
  refine ifd rfl (fun h => ?_) (fun h => ?_)
  · obtain ⟨x, hx⟩ : ∃ x, keep[k]? = some x := ⟨_, List.getElem?_eq_getElem (by omega)⟩
    obtain ⟨bK, oK, csK, EK, fK, rfl, hkn, hHK, hvK⟩ := hk.at1 (i := k) (v := .int .i64 x) (by rw [List.getElem?_map, hx]; rfl)
    have hKe : (f.synced : Int) + min (max x 0) ((n : Int) - f.synced) = (L : Int) := by
      have : keepI f keep k = min (max x 0) ((n : Int) - f.synced) := by simp only [keepI, hx, hlen]
      omega
    refine drw (by kernel_rfl) [(.q, 0), (.q, 1), (.q, 2), (.q, 3), (.q, 4), (.q, 5), (.q, 6), (.q, 7), (.q, 8), (.q, 9), (.q, 10), (.q, 11), (.q, 12), (.q, 13)] _ rfl (by kernel_rfl) (by kernel_rfl) trivial ?_
    refine xq rfl (fa fo25_0 rfl) ?_
    refine xq rfl (ld na23 rfl (by first | exact mR (by assumption) | repeat (first | assumption | exact m0 | apply mS | apply mA)) (by first | rfl | assumption)) ?_
    refine xq rfl (mv rfl) ?_
    refine xq rfl (ia Try.underlying23 sz3 rfl rfl (by omega) (by omega)) ?_
    refine xq rfl (ld na3 rfl (by first | exact mR (by assumption) | repeat (first | assumption | exact m0 | apply mS | apply mA)) (by first | rfl | assumption)) ?_
    refine xq rfl (mx2 rfl rfl) ?_
    refine xq rfl (fa fo102_0 rfl) ?_
    refine xq rfl (ld na33 rfl (by first | exact mR (by assumption) | repeat (first | assumption | exact m0 | apply mS | apply mA)) (by first | rfl | assumption)) ?_
    refine xq rfl (lnL Try.underlying33 rfl) ?_
    refine xq rfl (fa fo102_1 rfl) ?_
    refine xq rfl (ld na3 rfl (by first | exact mR (by assumption) | repeat (first | assumption | exact m0 | apply mS | apply mA)) (by first | rfl | assumption)) ?_
    refine xq rfl ((by first | exact bSubi rfl rfl (by omega) | exact bSub rfl rfl)) ?_
    refine xq rfl (mn2 rfl rfl) ?_
    refine xq rfl (asg rfl) ?_
    refine dSq ?_
    refine seq ?_
    refine reg ?_
    refine q (fa fo102_1 rfl) ?_
    refine q (ld na3 rfl (by first | exact mR (by assumption) | repeat (first | assumption | exact m0 | apply mS | apply mA)) (by first | rfl | assumption)) ?_
    refine q (mv rfl) ?_
    refine q (by first | exact bAddi rfl rfl (by omega) | exact bAdd rfl rfl) ?_
    refine q (asg rfl) ?_
    refine en ?_
    refine seq ?_
    refine reg ?_
    refine q (fa fo102_2 rfl) ?_
    refine q (ld na4 rfl (by first | exact mR (by assumption) | repeat (first | assumption | exact m0 | apply mS | apply mA)) (by first | rfl | assumption)) ?_
    refine q (mv rfl) ?_
    rw [hKe]
    refine dec (t := 35) rfl (fun h5 => ?_) (fun h5 => ?_)
    · refine gF rfl rfl rfl ?_
      refine gF rfl rfl rfl ?_
      refine gF rfl rfl rfl ?_
      refine gF rfl rfl rfl ?_
      refine gF rfl rfl rfl ?_
      refine q (by first | exact pkT rfl rfl | exact pkF rfl rfl) ?_
      refine q (fa fo102_2 rfl) ?_
      refine st sz4 rfl rfl rfl (by repeat (first | exact .h | apply In.t | apply In.r)) (by repeat constructor) ?_
      refine en ?_
      refine seq ?_
      refine seq ?_
      refine reg ?_
      refine q (mv rfl) ?_
      refine q (fa fo102_0 rfl) ?_
      refine q (ld na33 rfl (by first | exact mR (by assumption) | repeat (first | assumption | exact m0 | apply mS | apply mA)) (by first | rfl | assumption)) ?_
      refine q (lnL Try.underlying33 rfl) ?_
      refine q (bLss rfl rfl) ?_
      refine q (mv rfl) ?_
      refine decd (t := 48) rfl (fun h => ?_) (fun h => ?_)
      · refine gT rfl rfl ?_
        refine q (mv rfl) ?_
        refine gT rfl rfl ?_
        refine q (fa fo25_1 rfl) ?_
        refine gT rfl rfl ?_
        refine q (ld na23 rfl (by first | exact mR (by assumption) | repeat (first | assumption | exact m0 | apply mS | apply mA)) (by first | rfl | assumption)) ?_
        refine gT rfl rfl ?_
        refine q (lnL Try.underlying23 rfl) ?_
        refine gT rfl rfl ?_
        refine q (bLss rfl rfl) ?_
        refine q (by first | exact pkT rfl rfl | exact pkF rfl rfl) ?_
        refine en ?_
        refine ifd rfl (fun h => ?_) (fun h => ?_)
        · obtain ⟨r, hr1⟩ : ∃ r, f.recs[L]? = some r := ⟨_, List.getElem?_eq_getElem (by omega)⟩
          obtain ⟨y, hy⟩ : ∃ y, torn[k]? = some y := ⟨_, List.getElem?_eq_getElem (by omega)⟩
          obtain ⟨bT, oT, csT, ET, fT, rfl, htn, hHT, hvT⟩ := ht.at1 (i := k) (v := .int .i64 y) (by rw [List.getElem?_map, hy]; rfl)
          obtain ⟨bR, oR, csR, rfl, hrn, hbR, hvR⟩ := hs.at1 (i := L) (v := .string r) (by rw [List.getElem?_map, hr1]; rfl)
          have hHR := hb (bR, _) (by rw [hbR]; exact List.mem_singleton.2 rfl)
          have hrs := hne r (List.mem_of_getElem? hr1)
          obtain ⟨hT1, hT2, hT3, hT4⟩ := tornN_ok r y hrs.1
          have hyI := htI y (List.mem_of_getElem? hy)
          refine seq ?_
          refine reg ?_
          refine q (fa fo102_0 rfl) ?_
          refine q (ld na33 rfl (by first | exact mR (by assumption) | repeat (first | assumption | exact m0 | apply mS | apply mA)) (by first | rfl | assumption)) ?_
          refine q (mv rfl) ?_
          refine q (ia Try.underlying33 sz9 rfl rfl (by omega) (by omega)) ?_
          refine q (ld na9 rfl (by first | exact mR (by assumption) | repeat (first | assumption | exact m0 | apply mS | apply mA)) (by first | rfl | assumption)) ?_
          refine q (asg rfl) ?_
          refine en ?_
          refine seq ?_
          refine reg ?_
          refine q (fa fo25_1 rfl) ?_
          refine q (ld na23 rfl (by first | exact mR (by assumption) | repeat (first | assumption | exact m0 | apply mS | apply mA)) (by first | rfl | assumption)) ?_
          refine q (mv rfl) ?_
          refine q (ia Try.underlying23 sz3 rfl rfl (by omega) (by omega)) ?_
          refine q (ld na3 rfl (by first | exact mR (by assumption) | repeat (first | assumption | exact m0 | apply mS | apply mA)) (by first | rfl | assumption)) ?_
          refine q (mv rfl) ?_
          refine q (lnS Try.underlying9 rfl) ?_
          refine q (bRem rfl rfl (by omega)) ?_
          refine q (asg rfl) ?_
          refine en ?_
          refine seq ?_
          refine seq ?_
          refine reg ?_
          refine q (mv rfl) ?_
          refine q (bLss rfl rfl) ?_
          refine en ?_
          refine ifd rfl (fun h => ?_) (fun h => ?_)
          · rw [if_pos h] at hT1
            refine reg ?_
            refine q (mv rfl) ?_
            refine q (mv rfl) ?_
            refine q (lnS Try.underlying9 rfl) ?_
            refine q (by first | exact bAddi rfl rfl (by omega) | exact bAdd rfl rfl) ?_
            refine q (asg rfl) ?_
            refine en ?_
            refine reg ?_
            refine q (mv rfl) ?_
            refine q (mv rfl) ?_
            rw [hT1]
            refine q (slT (L := 0) (H := tornN r y) Try.underlying9 rfl rfl rfl (Nat.zero_le _) hT2) ?_
            have hcr : crashF f keep torn k = { recs := f.recs.take L, synced := L, cut := true, torn := r.extract 0 (tornN r y) } := by simp only [crashF, ← hL, hr1, hy, h5, Bool.true_or]
            refine q (fa fo102_3 rfl) ?_
            refine st sz9 rfl rfl rfl (by repeat (first | exact .h | apply In.t | apply In.r)) (by repeat constructor) ?_
            refine en ?_
            refine seq ?_
            refine reg ?_
            refine q (fa fo102_0 rfl) ?_
            refine q (ld na33 rfl (by first | exact mR (by assumption) | repeat (first | assumption | exact m0 | apply mS | apply mA)) (by first | rfl | assumption)) ?_
            refine q (mv rfl) ?_
            refine q (Sp.to (slS (L := 0) (H := L) (M := cap) Try.underlying33 sz9 rfl rfl rfl rfl (by simp) (Nat.zero_le _) (by omega) (by omega)) (u := .slice (some ⟨bR, oR, none⟩) L cap) (by simp [Addr.add])) ?_
            refine cl fb57 rfl ((dClip (by omega) (by omega))) ?_
            rintro v l' ⟨rfl, rfl⟩
            refine q (fa fo102_0 rfl) ?_
            refine st sz33 rfl rfl rfl (by repeat (first | exact .h | apply In.t | apply In.r)) (by repeat constructor) ?_
            refine en ?_
            refine seq ?_
            refine reg ?_
            refine q (mv rfl) ?_
            refine q (fa fo102_1 rfl) ?_
            refine st sz3 rfl rfl rfl (by repeat (first | exact .h | apply In.t | apply In.r)) (by repeat constructor) ?_
            refine en ?_
            refine seq ?_
            refine reg ?_
            refine q (ldA ag102 rfl (by first | exact mR (by assumption) | repeat (first | assumption | exact m0 | apply mS | apply mA)) (by first | assumption | repeat constructor)) ?_
            refine stA sz102 rfl rfl rfl rfl (by repeat (first | exact .h | apply In.t | apply In.r)) (by repeat constructor) ?_
            refine en ?_
            refine ret ?_
            exact finC rfl rfl ag102 m0 (by repeat constructor) (by repeat (first | exact List.Sublist.refl _ | apply List.Sublist.cons)) ⟨.slice (some ⟨bR, oR, none⟩) L L, by rw [hcr] <;> try rfl, by rw [hcr]; exact hsL, rfl⟩
          · rw [if_neg h] at hT1
            refine skp (dSq ?_)
            refine reg ?_
            refine q (mv rfl) ?_
            refine q (mv rfl) ?_
            rw [hT1]
            refine q (slT (L := 0) (H := tornN r y) Try.underlying9 rfl rfl rfl (Nat.zero_le _) hT2) ?_
            have hcr : crashF f keep torn k = { recs := f.recs.take L, synced := L, cut := true, torn := r.extract 0 (tornN r y) } := by simp only [crashF, ← hL, hr1, hy, h5, Bool.true_or]
            refine q (fa fo102_3 rfl) ?_
            refine st sz9 rfl rfl rfl (by repeat (first | exact .h | apply In.t | apply In.r)) (by repeat constructor) ?_
            refine en ?_
            refine seq ?_
            refine reg ?_
            refine q (fa fo102_0 rfl) ?_
            refine q (ld na33 rfl (by first | exact mR (by assumption) | repeat (first | assumption | exact m0 | apply mS | apply mA)) (by first | rfl | assumption)) ?_
            refine q (mv rfl) ?_
            refine q (Sp.to (slS (L := 0) (H := L) (M := cap) Try.underlying33 sz9 rfl rfl rfl rfl (by simp) (Nat.zero_le _) (by omega) (by omega)) (u := .slice (some ⟨bR, oR, none⟩) L cap) (by simp [Addr.add])) ?_
            refine cl fb57 rfl ((dClip (by omega) (by omega))) ?_
            rintro v l' ⟨rfl, rfl⟩
            refine q (fa fo102_0 rfl) ?_
            refine st sz33 rfl rfl rfl (by repeat (first | exact .h | apply In.t | apply In.r)) (by repeat constructor) ?_
            refine en ?_
            refine seq ?_
            refine reg ?_
            refine q (mv rfl) ?_
            refine q (fa fo102_1 rfl) ?_
            refine st sz3 rfl rfl rfl (by repeat (first | exact .h | apply In.t | apply In.r)) (by repeat constructor) ?_
            refine en ?_
            refine seq ?_
            refine reg ?_
            refine q (ldA ag102 rfl (by first | exact mR (by assumption) | repeat (first | assumption | exact m0 | apply mS | apply mA)) (by first | assumption | repeat constructor)) ?_
            refine stA sz102 rfl rfl rfl rfl (by repeat (first | exact .h | apply In.t | apply In.r)) (by repeat constructor) ?_
            refine en ?_
            refine ret ?_
            exact finC rfl rfl ag102 m0 (by repeat constructor) (by repeat (first | exact List.Sublist.refl _ | apply List.Sublist.cons)) ⟨.slice (some ⟨bR, oR, none⟩) L L, by rw [hcr] <;> try rfl, by rw [hcr]; exact hsL, rfl⟩
        · have hy : torn[k]? = none := List.getElem?_eq_none (by omega)
          have hcr : crashF f keep torn k = { recs := f.recs.take L, synced := L, cut := true, torn := f.torn } := by simp only [crashF, ← hL, hy, h5, Bool.true_or]; cases f.recs[L]? <;> rfl
          refine skp (dSq ?_)
          refine seq ?_
          refine reg ?_
          refine q (fa fo102_0 rfl) ?_
          refine q (ld na33 rfl (by first | exact mR (by assumption) | repeat (first | assumption | exact m0 | apply mS | apply mA)) (by first | rfl | assumption)) ?_
          refine q (mv rfl) ?_
          refine q (Sp.to (slS (L := 0) (H := L) (M := cap) Try.underlying33 sz9 rfl rfl rfl rfl (by simp) (Nat.zero_le _) (by omega) (by omega)) (u := .slice p L cap) (by simp [Addr.add])) ?_
          refine cl fb57 rfl ((dClip (by omega) (by omega))) ?_
          rintro v l' ⟨rfl, rfl⟩
          refine q (fa fo102_0 rfl) ?_
          refine st sz33 rfl rfl rfl (by repeat (first | exact .h | apply In.t | apply In.r)) (by repeat constructor) ?_
          refine en ?_
          refine seq ?_
          refine reg ?_
          refine q (mv rfl) ?_
          refine q (fa fo102_1 rfl) ?_
          refine st sz3 rfl rfl rfl (by repeat (first | exact .h | apply In.t | apply In.r)) (by repeat constructor) ?_
          refine en ?_
          refine seq ?_
          refine reg ?_
          refine q (ldA ag102 rfl (by first | exact mR (by assumption) | repeat (first | assumption | exact m0 | apply mS | apply mA)) (by first | assumption | repeat constructor)) ?_
          refine stA sz102 rfl rfl rfl rfl (by repeat (first | exact .h | apply In.t | apply In.r)) (by repeat constructor) ?_
          refine en ?_
          refine ret ?_
          exact finC rfl rfl ag102 m0 (by repeat constructor) (by repeat (first | exact List.Sublist.refl _ | apply List.Sublist.cons)) ⟨.slice p L L, by rw [hcr] <;> try rfl, by rw [hcr]; exact hsL, rfl⟩
      · refine gF rfl rfl rfl ?_
        refine gF rfl rfl rfl ?_
        refine gF rfl rfl rfl ?_
        refine gF rfl rfl rfl ?_
        refine gF rfl rfl rfl ?_
        refine q (by first | exact pkT rfl rfl | exact pkF rfl rfl) ?_
        refine en ?_
        refine ifF rfl ?_
        refine skp (dSq ?_)
        refine seq ?_
        refine reg ?_
        refine q (fa fo102_0 rfl) ?_
        refine q (ld na33 rfl (by first | exact mR (by assumption) | repeat (first | assumption | exact m0 | apply mS | apply mA)) (by first | rfl | assumption)) ?_
        refine q (mv rfl) ?_
        have hr1 : f.recs[L]? = none := List.getElem?_eq_none (by omega)
        have hcr : crashF f keep torn k = { recs := f.recs.take L, synced := L, cut := true, torn := f.torn } := by simp only [crashF, ← hL, hr1, h5, Bool.true_or]
        refine q (Sp.to (slS (L := 0) (H := L) (M := cap) Try.underlying33 sz9 rfl rfl rfl rfl (by simp) (Nat.zero_le _) (by omega) (by omega)) (u := .slice p L cap) (by simp [Addr.add])) ?_
        refine cl fb57 rfl ((dClip (by omega) (by omega))) ?_
        rintro v l' ⟨rfl, rfl⟩
        refine q (fa fo102_0 rfl) ?_
        refine st sz33 rfl rfl rfl (by repeat (first | exact .h | apply In.t | apply In.r)) (by repeat constructor) ?_
        refine en ?_
        refine seq ?_
        refine reg ?_
        refine q (mv rfl) ?_
        refine q (fa fo102_1 rfl) ?_
        refine st sz3 rfl rfl rfl (by repeat (first | exact .h | apply In.t | apply In.r)) (by repeat constructor) ?_
        refine en ?_
        refine seq ?_
        refine reg ?_
        refine q (ldA ag102 rfl (by first | exact mR (by assumption) | repeat (first | assumption | exact m0 | apply mS | apply mA)) (by first | assumption | repeat constructor)) ?_
        refine stA sz102 rfl rfl rfl rfl (by repeat (first | exact .h | apply In.t | apply In.r)) (by repeat constructor) ?_
        refine en ?_
        refine ret ?_
        exact finC rfl rfl ag102 m0 (by repeat constructor) (by repeat (first | exact List.Sublist.refl _ | apply List.Sublist.cons)) ⟨.slice p L L, by rw [hcr] <;> try rfl, by rw [hcr]; exact hsL, rfl⟩
    · refine gT rfl rfl ?_
      refine q (mv rfl) ?_
      refine gT rfl rfl ?_
      refine q (fa fo102_0 rfl) ?_
      refine gT rfl rfl ?_
      refine q (ld na33 rfl (by first | exact mR (by assumption) | repeat (first | assumption | exact m0 | apply mS | apply mA)) (by first | rfl | assumption)) ?_
      refine gT rfl rfl ?_
      refine q (lnL Try.underlying33 rfl) ?_
      refine gT rfl rfl ?_
      refine q (bLss rfl rfl) ?_
      refine q (by first | exact pkT rfl rfl | exact pkF rfl rfl) ?_
      refine q (fa fo102_2 rfl) ?_
      refine st sz4 rfl rfl rfl (by repeat (first | exact .h | apply In.t | apply In.r)) (by repeat constructor) ?_
      refine en ?_
      refine seq ?_
      refine seq ?_
      refine reg ?_
      refine q (mv rfl) ?_
      refine q (fa fo102_0 rfl) ?_
      refine q (ld na33 rfl (by first | exact mR (by assumption) | repeat (first | assumption | exact m0 | apply mS | apply mA)) (by first | rfl | assumption)) ?_
      refine q (lnL Try.underlying33 rfl) ?_
      refine q (bLss rfl rfl) ?_
      refine q (mv rfl) ?_
      refine decd (t := 48) rfl (fun h => ?_) (fun h => ?_)
      · refine gT rfl rfl ?_
        refine q (mv rfl) ?_
        refine gT rfl rfl ?_
        refine q (fa fo25_1 rfl) ?_
        refine gT rfl rfl ?_
        refine q (ld na23 rfl (by first | exact mR (by assumption) | repeat (first | assumption | exact m0 | apply mS | apply mA)) (by first | rfl | assumption)) ?_
        refine gT rfl rfl ?_
        refine q (lnL Try.underlying23 rfl) ?_
        refine gT rfl rfl ?_
        refine q (bLss rfl rfl) ?_
        refine q (by first | exact pkT rfl rfl | exact pkF rfl rfl) ?_
        refine en ?_
        refine ifd rfl (fun h => ?_) (fun h => ?_)
        · obtain ⟨r, hr1⟩ : ∃ r, f.recs[L]? = some r := ⟨_, List.getElem?_eq_getElem (by omega)⟩
          obtain ⟨y, hy⟩ : ∃ y, torn[k]? = some y := ⟨_, List.getElem?_eq_getElem (by omega)⟩
          obtain ⟨bT, oT, csT, ET, fT, rfl, htn, hHT, hvT⟩ := ht.at1 (i := k) (v := .int .i64 y) (by rw [List.getElem?_map, hy]; rfl)
          obtain ⟨bR, oR, csR, rfl, hrn, hbR, hvR⟩ := hs.at1 (i := L) (v := .string r) (by rw [List.getElem?_map, hr1]; rfl)
          have hHR := hb (bR, _) (by rw [hbR]; exact List.mem_singleton.2 rfl)
          have hrs := hne r (List.mem_of_getElem? hr1)
          obtain ⟨hT1, hT2, hT3, hT4⟩ := tornN_ok r y hrs.1
          have hyI := htI y (List.mem_of_getElem? hy)
          refine seq ?_
          refine reg ?_
          refine q (fa fo102_0 rfl) ?_
          refine q (ld na33 rfl (by first | exact mR (by assumption) | repeat (first | assumption | exact m0 | apply mS | apply mA)) (by first | rfl | assumption)) ?_
          refine q (mv rfl) ?_
          refine q (ia Try.underlying33 sz9 rfl rfl (by omega) (by omega)) ?_
          refine q (ld na9 rfl (by first | exact mR (by assumption) | repeat (first | assumption | exact m0 | apply mS | apply mA)) (by first | rfl | assumption)) ?_
          refine q (asg rfl) ?_
          refine en ?_
          refine seq ?_
          refine reg ?_
          refine q (fa fo25_1 rfl) ?_
          refine q (ld na23 rfl (by first | exact mR (by assumption) | repeat (first | assumption | exact m0 | apply mS | apply mA)) (by first | rfl | assumption)) ?_
          refine q (mv rfl) ?_
          refine q (ia Try.underlying23 sz3 rfl rfl (by omega) (by omega)) ?_
          refine q (ld na3 rfl (by first | exact mR (by assumption) | repeat (first | assumption | exact m0 | apply mS | apply mA)) (by first | rfl | assumption)) ?_
          refine q (mv rfl) ?_
          refine q (lnS Try.underlying9 rfl) ?_
          refine q (bRem rfl rfl (by omega)) ?_
          refine q (asg rfl) ?_
          refine en ?_
          refine seq ?_
          refine seq ?_
          refine reg ?_
          refine q (mv rfl) ?_
          refine q (bLss rfl rfl) ?_
          refine en ?_
          refine ifd rfl (fun h => ?_) (fun h => ?_)
          · rw [if_pos h] at hT1
            refine reg ?_
            refine q (mv rfl) ?_
            refine q (mv rfl) ?_
            refine q (lnS Try.underlying9 rfl) ?_
            refine q (by first | exact bAddi rfl rfl (by omega) | exact bAdd rfl rfl) ?_
            refine q (asg rfl) ?_
            refine en ?_
            refine reg ?_
            refine q (mv rfl) ?_
            refine q (mv rfl) ?_
            rw [hT1]
            refine q (slT (L := 0) (H := tornN r y) Try.underlying9 rfl rfl rfl (Nat.zero_le _) hT2) ?_
            have hcr : crashF f keep torn k = { recs := f.recs.take L, synced := L, cut := decide ((L : Int) < (n : Int)), torn := r.extract 0 (tornN r y) } := by simp only [crashF, ← hL, hr1, hy, h5, Bool.false_or, hlen, Int.ofNat_lt]
            refine q (fa fo102_3 rfl) ?_
            refine st sz9 rfl rfl rfl (by repeat (first | exact .h | apply In.t | apply In.r)) (by repeat constructor) ?_
            refine en ?_
            refine seq ?_
            refine reg ?_
            refine q (fa fo102_0 rfl) ?_
            refine q (ld na33 rfl (by first | exact mR (by assumption) | repeat (first | assumption | exact m0 | apply mS | apply mA)) (by first | rfl | assumption)) ?_
            refine q (mv rfl) ?_
            refine q (Sp.to (slS (L := 0) (H := L) (M := cap) Try.underlying33 sz9 rfl rfl rfl rfl (by simp) (Nat.zero_le _) (by omega) (by omega)) (u := .slice (some ⟨bR, oR, none⟩) L cap) (by simp [Addr.add])) ?_
            refine cl fb57 rfl ((dClip (by omega) (by omega))) ?_
            rintro v l' ⟨rfl, rfl⟩
            refine q (fa fo102_0 rfl) ?_
            refine st sz33 rfl rfl rfl (by repeat (first | exact .h | apply In.t | apply In.r)) (by repeat constructor) ?_
            refine en ?_
            refine seq ?_
            refine reg ?_
            refine q (mv rfl) ?_
            refine q (fa fo102_1 rfl) ?_
            refine st sz3 rfl rfl rfl (by repeat (first | exact .h | apply In.t | apply In.r)) (by repeat constructor) ?_
            refine en ?_
            refine seq ?_
            refine reg ?_
            refine q (ldA ag102 rfl (by first | exact mR (by assumption) | repeat (first | assumption | exact m0 | apply mS | apply mA)) (by first | assumption | repeat constructor)) ?_
            refine stA sz102 rfl rfl rfl rfl (by repeat (first | exact .h | apply In.t | apply In.r)) (by repeat constructor) ?_
            refine en ?_
            refine ret ?_
            exact finC rfl rfl ag102 m0 (by repeat constructor) (by repeat (first | exact List.Sublist.refl _ | apply List.Sublist.cons)) ⟨.slice (some ⟨bR, oR, none⟩) L L, by rw [hcr] <;> try rfl, by rw [hcr]; exact hsL, rfl⟩
          · rw [if_neg h] at hT1
            refine skp (dSq ?_)
            refine reg ?_
            refine q (mv rfl) ?_
            refine q (mv rfl) ?_
            rw [hT1]
            refine q (slT (L := 0) (H := tornN r y) Try.underlying9 rfl rfl rfl (Nat.zero_le _) hT2) ?_
            have hcr : crashF f keep torn k = { recs := f.recs.take L, synced := L, cut := decide ((L : Int) < (n : Int)), torn := r.extract 0 (tornN r y) } := by simp only [crashF, ← hL, hr1, hy, h5, Bool.false_or, hlen, Int.ofNat_lt]
            refine q (fa fo102_3 rfl) ?_
            refine st sz9 rfl rfl rfl (by repeat (first | exact .h | apply In.t | apply In.r)) (by repeat constructor) ?_
            refine en ?_
            refine seq ?_
            refine reg ?_
            refine q (fa fo102_0 rfl) ?_
            refine q (ld na33 rfl (by first | exact mR (by assumption) | repeat (first | assumption | exact m0 | apply mS | apply mA)) (by first | rfl | assumption)) ?_
            refine q (mv rfl) ?_
            refine q (Sp.to (slS (L := 0) (H := L) (M := cap) Try.underlying33 sz9 rfl rfl rfl rfl (by simp) (Nat.zero_le _) (by omega) (by omega)) (u := .slice (some ⟨bR, oR, none⟩) L cap) (by simp [Addr.add])) ?_
            refine cl fb57 rfl ((dClip (by omega) (by omega))) ?_
            rintro v l' ⟨rfl, rfl⟩
            refine q (fa fo102_0 rfl) ?_
            refine st sz33 rfl rfl rfl (by repeat (first | exact .h | apply In.t | apply In.r)) (by repeat constructor) ?_
            refine en ?_
            refine seq ?_
            refine reg ?_
            refine q (mv rfl) ?_
            refine q (fa fo102_1 rfl) ?_
            refine st sz3 rfl rfl rfl (by repeat (first | exact .h | apply In.t | apply In.r)) (by repeat constructor) ?_
            refine en ?_
            refine seq ?_
            refine reg ?_
            refine q (ldA ag102 rfl (by first | exact mR (by assumption) | repeat (first | assumption | exact m0 | apply mS | apply mA)) (by first | assumption | repeat constructor)) ?_
            refine stA sz102 rfl rfl rfl rfl (by repeat (first | exact .h | apply In.t | apply In.r)) (by repeat constructor) ?_
            refine en ?_
            refine ret ?_
            exact finC rfl rfl ag102 m0 (by repeat constructor) (by repeat (first | exact List.Sublist.refl _ | apply List.Sublist.cons)) ⟨.slice (some ⟨bR, oR, none⟩) L L, by rw [hcr] <;> try rfl, by rw [hcr]; exact hsL, rfl⟩
        · have hy : torn[k]? = none := List.getElem?_eq_none (by omega)
          have hcr : crashF f keep torn k = { recs := f.recs.take L, synced := L, cut := decide ((L : Int) < (n : Int)), torn := f.torn } := by simp only [crashF, ← hL, hy, h5, Bool.false_or, hlen, Int.ofNat_lt]; cases f.recs[L]? <;> rfl
          refine skp (dSq ?_)
          refine seq ?_
          refine reg ?_
          refine q (fa fo102_0 rfl) ?_
          refine q (ld na33 rfl (by first | exact mR (by assumption) | repeat (first | assumption | exact m0 | apply mS | apply mA)) (by first | rfl | assumption)) ?_
          refine q (mv rfl) ?_
          refine q (Sp.to (slS (L := 0) (H := L) (M := cap) Try.underlying33 sz9 rfl rfl rfl rfl (by simp) (Nat.zero_le _) (by omega) (by omega)) (u := .slice p L cap) (by simp [Addr.add])) ?_
          refine cl fb57 rfl ((dClip (by omega) (by omega))) ?_
          rintro v l' ⟨rfl, rfl⟩
          refine q (fa fo102_0 rfl) ?_
          refine st sz33 rfl rfl rfl (by repeat (first | exact .h | apply In.t | apply In.r)) (by repeat constructor) ?_
          refine en ?_
          refine seq ?_
          refine reg ?_
          refine q (mv rfl) ?_
          refine q (fa fo102_1 rfl) ?_
          refine st sz3 rfl rfl rfl (by repeat (first | exact .h | apply In.t | apply In.r)) (by repeat constructor) ?_
          refine en ?_
          refine seq ?_
          refine reg ?_
          refine q (ldA ag102 rfl (by first | exact mR (by assumption) | repeat (first | assumption | exact m0 | apply mS | apply mA)) (by first | assumption | repeat constructor)) ?_
          refine stA sz102 rfl rfl rfl rfl (by repeat (first | exact .h | apply In.t | apply In.r)) (by repeat constructor) ?_
          refine en ?_
          refine ret ?_
          exact finC rfl rfl ag102 m0 (by repeat constructor) (by repeat (first | exact List.Sublist.refl _ | apply List.Sublist.cons)) ⟨.slice p L L, by rw [hcr] <;> try rfl, by rw [hcr]; exact hsL, rfl⟩
      · refine gF rfl rfl rfl ?_
        refine gF rfl rfl rfl ?_
        refine gF rfl rfl rfl ?_
        refine gF rfl rfl rfl ?_
        refine gF rfl rfl rfl ?_
        refine q (by first | exact pkT rfl rfl | exact pkF rfl rfl) ?_
        refine en ?_
        refine ifF rfl ?_
        refine skp (dSq ?_)
        refine seq ?_
        refine reg ?_
        refine q (fa fo102_0 rfl) ?_
        refine q (ld na33 rfl (by first | exact mR (by assumption) | repeat (first | assumption | exact m0 | apply mS | apply mA)) (by first | rfl | assumption)) ?_
        refine q (mv rfl) ?_
        have hr1 : f.recs[L]? = none := List.getElem?_eq_none (by omega)
        have hcr : crashF f keep torn k = { recs := f.recs.take L, synced := L, cut := decide ((L : Int) < (n : Int)), torn := f.torn } := by simp only [crashF, ← hL, hr1, h5, Bool.false_or, hlen, Int.ofNat_lt]
        refine q (Sp.to (slS (L := 0) (H := L) (M := cap) Try.underlying33 sz9 rfl rfl rfl rfl (by simp) (Nat.zero_le _) (by omega) (by omega)) (u := .slice p L cap) (by simp [Addr.add])) ?_
        refine cl fb57 rfl ((dClip (by omega) (by omega))) ?_
        rintro v l' ⟨rfl, rfl⟩
        refine q (fa fo102_0 rfl) ?_
        refine st sz33 rfl rfl rfl (by repeat (first | exact .h | apply In.t | apply In.r)) (by repeat constructor) ?_
        refine en ?_
        refine seq ?_
        refine reg ?_
        refine q (mv rfl) ?_
        refine q (fa fo102_1 rfl) ?_
        refine st sz3 rfl rfl rfl (by repeat (first | exact .h | apply In.t | apply In.r)) (by repeat constructor) ?_
        refine en ?_
        refine seq ?_
        refine reg ?_
        refine q (ldA ag102 rfl (by first | exact mR (by assumption) | repeat (first | assumption | exact m0 | apply mS | apply mA)) (by first | assumption | repeat constructor)) ?_
        refine stA sz102 rfl rfl rfl rfl (by repeat (first | exact .h | apply In.t | apply In.r)) (by repeat constructor) ?_
        refine en ?_
        refine ret ?_
        exact finC rfl rfl ag102 m0 (by repeat constructor) (by repeat (first | exact List.Sublist.refl _ | apply List.Sublist.cons)) ⟨.slice p L L, by rw [hcr] <;> try rfl, by rw [hcr]; exact hsL, rfl⟩
  · have hx : keep[k]? = none := List.getElem?_eq_none (by omega)
    have hKe : (f.synced : Int) + 0 = (L : Int) := by
      have : keepI f keep k = 0 := by simp only [keepI, hx]
      omega
    refine skp (dSq ?_)
    refine seq ?_
    refine reg ?_
    refine q (fa fo102_1 rfl) ?_
    refine q (ld na3 rfl (by first | exact mR (by assumption) | repeat (first | assumption | exact m0 | apply mS | apply mA)) (by first | rfl | assumption)) ?_
    refine q (mv rfl) ?_
    refine q (by first | exact bAddi rfl rfl (by omega) | exact bAdd rfl rfl) ?_
    refine q (asg rfl) ?_
    refine en ?_
    refine seq ?_
    refine reg ?_
    refine q (fa fo102_2 rfl) ?_
    refine q (ld na4 rfl (by first | exact mR (by assumption) | repeat (first | assumption | exact m0 | apply mS | apply mA)) (by first | rfl | assumption)) ?_
    refine q (mv rfl) ?_
    rw [hKe]
    refine dec (t := 35) rfl (fun h5 => ?_) (fun h5 => ?_)
    · refine gF rfl rfl rfl ?_
      refine gF rfl rfl rfl ?_
      refine gF rfl rfl rfl ?_
      refine gF rfl rfl rfl ?_
      refine gF rfl rfl rfl ?_
      refine q (by first | exact pkT rfl rfl | exact pkF rfl rfl) ?_
      refine q (fa fo102_2 rfl) ?_
      refine st sz4 rfl rfl rfl (by repeat (first | exact .h | apply In.t | apply In.r)) (by repeat constructor) ?_
      refine en ?_
      refine seq ?_
      refine seq ?_
      refine reg ?_
      refine q (mv rfl) ?_
      refine q (fa fo102_0 rfl) ?_
      refine q (ld na33 rfl (by first | exact mR (by assumption) | repeat (first | assumption | exact m0 | apply mS | apply mA)) (by first | rfl | assumption)) ?_
      refine q (lnL Try.underlying33 rfl) ?_
      refine q (bLss rfl rfl) ?_
      refine q (mv rfl) ?_
      refine decd (t := 48) rfl (fun h => ?_) (fun h => ?_)
      · refine gT rfl rfl ?_
        refine q (mv rfl) ?_
        refine gT rfl rfl ?_
        refine q (fa fo25_1 rfl) ?_
        refine gT rfl rfl ?_
        refine q (ld na23 rfl (by first | exact mR (by assumption) | repeat (first | assumption | exact m0 | apply mS | apply mA)) (by first | rfl | assumption)) ?_
        refine gT rfl rfl ?_
        refine q (lnL Try.underlying23 rfl) ?_
        refine gT rfl rfl ?_
        refine q (bLss rfl rfl) ?_
        refine q (by first | exact pkT rfl rfl | exact pkF rfl rfl) ?_
        refine en ?_
        refine ifd rfl (fun h => ?_) (fun h => ?_)
        · obtain ⟨r, hr1⟩ : ∃ r, f.recs[L]? = some r := ⟨_, List.getElem?_eq_getElem (by omega)⟩
          obtain ⟨y, hy⟩ : ∃ y, torn[k]? = some y := ⟨_, List.getElem?_eq_getElem (by omega)⟩
          obtain ⟨bT, oT, csT, ET, fT, rfl, htn, hHT, hvT⟩ := ht.at1 (i := k) (v := .int .i64 y) (by rw [List.getElem?_map, hy]; rfl)
          obtain ⟨bR, oR, csR, rfl, hrn, hbR, hvR⟩ := hs.at1 (i := L) (v := .string r) (by rw [List.getElem?_map, hr1]; rfl)
          have hHR := hb (bR, _) (by rw [hbR]; exact List.mem_singleton.2 rfl)
          have hrs := hne r (List.mem_of_getElem? hr1)
          obtain ⟨hT1, hT2, hT3, hT4⟩ := tornN_ok r y hrs.1
          have hyI := htI y (List.mem_of_getElem? hy)
          refine seq ?_
          refine reg ?_
          refine q (fa fo102_0 rfl) ?_
          refine q (ld na33 rfl (by first | exact mR (by assumption) | repeat (first | assumption | exact m0 | apply mS | apply mA)) (by first | rfl | assumption)) ?_
          refine q (mv rfl) ?_
          refine q (ia Try.underlying33 sz9 rfl rfl (by omega) (by omega)) ?_
          refine q (ld na9 rfl (by first | exact mR (by assumption) | repeat (first | assumption | exact m0 | apply mS | apply mA)) (by first | rfl | assumption)) ?_
          refine q (asg rfl) ?_
          refine en ?_
          refine seq ?_
          refine reg ?_
          refine q (fa fo25_1 rfl) ?_
          refine q (ld na23 rfl (by first | exact mR (by assumption) | repeat (first | assumption | exact m0 | apply mS | apply mA)) (by first | rfl | assumption)) ?_
          refine q (mv rfl) ?_
          refine q (ia Try.underlying23 sz3 rfl rfl (by omega) (by omega)) ?_
          refine q (ld na3 rfl (by first | exact mR (by assumption) | repeat (first | assumption | exact m0 | apply mS | apply mA)) (by first | rfl | assumption)) ?_
          refine q (mv rfl) ?_
          refine q (lnS Try.underlying9 rfl) ?_
          refine q (bRem rfl rfl (by omega)) ?_
          refine q (asg rfl) ?_
          refine en ?_
          refine seq ?_
          refine seq ?_
          refine reg ?_
          refine q (mv rfl) ?_
          refine q (bLss rfl rfl) ?_
          refine en ?_
          refine ifd rfl (fun h => ?_) (fun h => ?_)
          · rw [if_pos h] at hT1
            refine reg ?_
            refine q (mv rfl) ?_
            refine q (mv rfl) ?_
            refine q (lnS Try.underlying9 rfl) ?_
            refine q (by first | exact bAddi rfl rfl (by omega) | exact bAdd rfl rfl) ?_
            refine q (asg rfl) ?_
            refine en ?_
            refine reg ?_
            refine q (mv rfl) ?_
            refine q (mv rfl) ?_
            rw [hT1]
            refine q (slT (L := 0) (H := tornN r y) Try.underlying9 rfl rfl rfl (Nat.zero_le _) hT2) ?_
            have hcr : crashF f keep torn k = { recs := f.recs.take L, synced := L, cut := true, torn := r.extract 0 (tornN r y) } := by simp only [crashF, ← hL, hr1, hy, h5, Bool.true_or]
            refine q (fa fo102_3 rfl) ?_
            refine st sz9 rfl rfl rfl (by repeat (first | exact .h | apply In.t | apply In.r)) (by repeat constructor) ?_
            refine en ?_
            refine seq ?_
            refine reg ?_
            refine q (fa fo102_0 rfl) ?_
            refine q (ld na33 rfl (by first | exact mR (by assumption) | repeat (first | assumption | exact m0 | apply mS | apply mA)) (by first | rfl | assumption)) ?_
            refine q (mv rfl) ?_
            refine q (Sp.to (slS (L := 0) (H := L) (M := cap) Try.underlying33 sz9 rfl rfl rfl rfl (by simp) (Nat.zero_le _) (by omega) (by omega)) (u := .slice (some ⟨bR, oR, none⟩) L cap) (by simp [Addr.add])) ?_
            refine cl fb57 rfl ((dClip (by omega) (by omega))) ?_
            rintro v l' ⟨rfl, rfl⟩
            refine q (fa fo102_0 rfl) ?_
            refine st sz33 rfl rfl rfl (by repeat (first | exact .h | apply In.t | apply In.r)) (by repeat constructor) ?_
            refine en ?_
            refine seq ?_
            refine reg ?_
            refine q (mv rfl) ?_
            refine q (fa fo102_1 rfl) ?_
            refine st sz3 rfl rfl rfl (by repeat (first | exact .h | apply In.t | apply In.r)) (by repeat constructor) ?_
            refine en ?_
            refine seq ?_
            refine reg ?_
            refine q (ldA ag102 rfl (by first | exact mR (by assumption) | repeat (first | assumption | exact m0 | apply mS | apply mA)) (by first | assumption | repeat constructor)) ?_
            refine stA sz102 rfl rfl rfl rfl (by repeat (first | exact .h | apply In.t | apply In.r)) (by repeat constructor) ?_
            refine en ?_
            refine ret ?_
            exact finC rfl rfl ag102 m0 (by repeat constructor) (by repeat (first | exact List.Sublist.refl _ | apply List.Sublist.cons)) ⟨.slice (some ⟨bR, oR, none⟩) L L, by rw [hcr] <;> try rfl, by rw [hcr]; exact hsL, rfl⟩
          · rw [if_neg h] at hT1
            refine skp (dSq ?_)
            refine reg ?_
            refine q (mv rfl) ?_
            refine q (mv rfl) ?_
            rw [hT1]
            refine q (slT (L := 0) (H := tornN r y) Try.underlying9 rfl rfl rfl (Nat.zero_le _) hT2) ?_
            have hcr : crashF f keep torn k = { recs := f.recs.take L, synced := L, cut := true, torn := r.extract 0 (tornN r y) } := by simp only [crashF, ← hL, hr1, hy, h5, Bool.true_or]
            refine q (fa fo102_3 rfl) ?_
            refine st sz9 rfl rfl rfl (by repeat (first | exact .h | apply In.t | apply In.r)) (by repeat constructor) ?_
            refine en ?_
            refine seq ?_
            refine reg ?_
            refine q (fa fo102_0 rfl) ?_
            refine q (ld na33 rfl (by first | exact mR (by assumption) | repeat (first | assumption | exact m0 | apply mS | apply mA)) (by first | rfl | assumption)) ?_
            refine q (mv rfl) ?_
            refine q (Sp.to (slS (L := 0) (H := L) (M := cap) Try.underlying33 sz9 rfl rfl rfl rfl (by simp) (Nat.zero_le _) (by omega) (by omega)) (u := .slice (some ⟨bR, oR, none⟩) L cap) (by simp [Addr.add])) ?_
            refine cl fb57 rfl ((dClip (by omega) (by omega))) ?_
            rintro v l' ⟨rfl, rfl⟩
            refine q (fa fo102_0 rfl) ?_
            refine st sz33 rfl rfl rfl (by repeat (first | exact .h | apply In.t | apply In.r)) (by repeat constructor) ?_
            refine en ?_
            refine seq ?_
            refine reg ?_
            refine q (mv rfl) ?_
            refine q (fa fo102_1 rfl) ?_
            refine st sz3 rfl rfl rfl (by repeat (first | exact .h | apply In.t | apply In.r)) (by repeat constructor) ?_
            refine en ?_
            refine seq ?_
            refine reg ?_
            refine q (ldA ag102 rfl (by first | exact mR (by assumption) | repeat (first | assumption | exact m0 | apply mS | apply mA)) (by first | assumption | repeat constructor)) ?_
            refine stA sz102 rfl rfl rfl rfl (by repeat (first | exact .h | apply In.t | apply In.r)) (by repeat constructor) ?_
            refine en ?_
            refine ret ?_
            exact finC rfl rfl ag102 m0 (by repeat constructor) (by repeat (first | exact List.Sublist.refl _ | apply List.Sublist.cons)) ⟨.slice (some ⟨bR, oR, none⟩) L L, by rw [hcr] <;> try rfl, by rw [hcr]; exact hsL, rfl⟩
        · have hy : torn[k]? = none := List.getElem?_eq_none (by omega)
          have hcr : crashF f keep torn k = { recs := f.recs.take L, synced := L, cut := true, torn := f.torn } := by simp only [crashF, ← hL, hy, h5, Bool.true_or]; cases f.recs[L]? <;> rfl
          refine skp (dSq ?_)
          refine seq ?_
          refine reg ?_
          refine q (fa fo102_0 rfl) ?_
          refine q (ld na33 rfl (by first | exact mR (by assumption) | repeat (first | assumption | exact m0 | apply mS | apply mA)) (by first | rfl | assumption)) ?_
          refine q (mv rfl) ?_
          refine q (Sp.to (slS (L := 0) (H := L) (M := cap) Try.underlying33 sz9 rfl rfl rfl rfl (by simp) (Nat.zero_le _) (by omega) (by omega)) (u := .slice p L cap) (by simp [Addr.add])) ?_
          refine cl fb57 rfl ((dClip (by omega) (by omega))) ?_
          rintro v l' ⟨rfl, rfl⟩
          refine q (fa fo102_0 rfl) ?_
          refine st sz33 rfl rfl rfl (by repeat (first | exact .h | apply In.t | apply In.r)) (by repeat constructor) ?_
          refine en ?_
          refine seq ?_
          refine reg ?_
          refine q (mv rfl) ?_
          refine q (fa fo102_1 rfl) ?_
          refine st sz3 rfl rfl rfl (by repeat (first | exact .h | apply In.t | apply In.r)) (by repeat constructor) ?_
          refine en ?_
          refine seq ?_
          refine reg ?_
          refine q (ldA ag102 rfl (by first | exact mR (by assumption) | repeat (first | assumption | exact m0 | apply mS | apply mA)) (by first | assumption | repeat constructor)) ?_
          refine stA sz102 rfl rfl rfl rfl (by repeat (first | exact .h | apply In.t | apply In.r)) (by repeat constructor) ?_
          refine en ?_
          refine ret ?_
          exact finC rfl rfl ag102 m0 (by repeat constructor) (by repeat (first | exact List.Sublist.refl _ | apply List.Sublist.cons)) ⟨.slice p L L, by rw [hcr] <;> try rfl, by rw [hcr]; exact hsL, rfl⟩
      · refine gF rfl rfl rfl ?_
        refine gF rfl rfl rfl ?_
        refine gF rfl rfl rfl ?_
        refine gF rfl rfl rfl ?_
        refine gF rfl rfl rfl ?_
        refine q (by first | exact pkT rfl rfl | exact pkF rfl rfl) ?_
        refine en ?_
        refine ifF rfl ?_
        refine skp (dSq ?_)
        refine seq ?_
        refine reg ?_
        refine q (fa fo102_0 rfl) ?_
        refine q (ld na33 rfl (by first | exact mR (by assumption) | repeat (first | assumption | exact m0 | apply mS | apply mA)) (by first | rfl | assumption)) ?_
        refine q (mv rfl) ?_
        have hr1 : f.recs[L]? = none := List.getElem?_eq_none (by omega)
        have hcr : crashF f keep torn k = { recs := f.recs.take L, synced := L, cut := true, torn := f.torn } := by simp only [crashF, ← hL, hr1, h5, Bool.true_or]
        refine q (Sp.to (slS (L := 0) (H := L) (M := cap) Try.underlying33 sz9 rfl rfl rfl rfl (by simp) (Nat.zero_le _) (by omega) (by omega)) (u := .slice p L cap) (by simp [Addr.add])) ?_
        refine cl fb57 rfl ((dClip (by omega) (by omega))) ?_
        rintro v l' ⟨rfl, rfl⟩
        refine q (fa fo102_0 rfl) ?_
        refine st sz33 rfl rfl rfl (by repeat (first | exact .h | apply In.t | apply In.r)) (by repeat constructor) ?_
        refine en ?_
        refine seq ?_
        refine reg ?_
        refine q (mv rfl) ?_
        refine q (fa fo102_1 rfl) ?_
        refine st sz3 rfl rfl rfl (by repeat (first | exact .h | apply In.t | apply In.r)) (by repeat constructor) ?_
        refine en ?_
        refine seq ?_
        refine reg ?_
        refine q (ldA ag102 rfl (by first | exact mR (by assumption) | repeat (first | assumption | exact m0 | apply mS | apply mA)) (by first | assumption | repeat constructor)) ?_
        refine stA sz102 rfl rfl rfl rfl (by repeat (first | exact .h | apply In.t | apply In.r)) (by repeat constructor) ?_
        refine en ?_
        refine ret ?_
        exact finC rfl rfl ag102 m0 (by repeat constructor) (by repeat (first | exact List.Sublist.refl _ | apply List.Sublist.cons)) ⟨.slice p L L, by rw [hcr] <;> try rfl, by rw [hcr]; exact hsL, rfl⟩
    · refine gT rfl rfl ?_
      refine q (mv rfl) ?_
      refine gT rfl rfl ?_
      refine q (fa fo102_0 rfl) ?_
      refine gT rfl rfl ?_
      refine q (ld na33 rfl (by first | exact mR (by assumption) | repeat (first | assumption | exact m0 | apply mS | apply mA)) (by first | rfl | assumption)) ?_
      refine gT rfl rfl ?_
      refine q (lnL Try.underlying33 rfl) ?_
      refine gT rfl rfl ?_
      refine q (bLss rfl rfl) ?_
      refine q (by first | exact pkT rfl rfl | exact pkF rfl rfl) ?_
      refine q (fa fo102_2 rfl) ?_
      refine st sz4 rfl rfl rfl (by repeat (first | exact .h | apply In.t | apply In.r)) (by repeat constructor) ?_
      refine en ?_
      refine seq ?_
      refine seq ?_
      refine reg ?_
      refine q (mv rfl) ?_
      refine q (fa fo102_0 rfl) ?_
      refine q (ld na33 rfl (by first | exact mR (by assumption) | repeat (first | assumption | exact m0 | apply mS | apply mA)) (by first | rfl | assumption)) ?_
      refine q (lnL Try.underlying33 rfl) ?_
      refine q (bLss rfl rfl) ?_
      refine q (mv rfl) ?_
      refine decd (t := 48) rfl (fun h => ?_) (fun h => ?_)
      · refine gT rfl rfl ?_
        refine q (mv rfl) ?_
        refine gT rfl rfl ?_
        refine q (fa fo25_1 rfl) ?_
        refine gT rfl rfl ?_
        refine q (ld na23 rfl (by first | exact mR (by assumption) | repeat (first | assumption | exact m0 | apply mS | apply mA)) (by first | rfl | assumption)) ?_
        refine gT rfl rfl ?_
        refine q (lnL Try.underlying23 rfl) ?_
        refine gT rfl rfl ?_
        refine q (bLss rfl rfl) ?_
        refine q (by first | exact pkT rfl rfl | exact pkF rfl rfl) ?_
        refine en ?_
        refine ifd rfl (fun h => ?_) (fun h => ?_)
        · obtain ⟨r, hr1⟩ : ∃ r, f.recs[L]? = some r := ⟨_, List.getElem?_eq_getElem (by omega)⟩
          obtain ⟨y, hy⟩ : ∃ y, torn[k]? = some y := ⟨_, List.getElem?_eq_getElem (by omega)⟩
          obtain ⟨bT, oT, csT, ET, fT, rfl, htn, hHT, hvT⟩ := ht.at1 (i := k) (v := .int .i64 y) (by rw [List.getElem?_map, hy]; rfl)
          obtain ⟨bR, oR, csR, rfl, hrn, hbR, hvR⟩ := hs.at1 (i := L) (v := .string r) (by rw [List.getElem?_map, hr1]; rfl)
          have hHR := hb (bR, _) (by rw [hbR]; exact List.mem_singleton.2 rfl)
          have hrs := hne r (List.mem_of_getElem? hr1)
          obtain ⟨hT1, hT2, hT3, hT4⟩ := tornN_ok r y hrs.1
          have hyI := htI y (List.mem_of_getElem? hy)
          refine seq ?_
          refine reg ?_
          refine q (fa fo102_0 rfl) ?_
          refine q (ld na33 rfl (by first | exact mR (by assumption) | repeat (first | assumption | exact m0 | apply mS | apply mA)) (by first | rfl | assumption)) ?_
          refine q (mv rfl) ?_
          refine q (ia Try.underlying33 sz9 rfl rfl (by omega) (by omega)) ?_
          refine q (ld na9 rfl (by first | exact mR (by assumption) | repeat (first | assumption | exact m0 | apply mS | apply mA)) (by first | rfl | assumption)) ?_
          refine q (asg rfl) ?_
          refine en ?_
          refine seq ?_
          refine reg ?_
          refine q (fa fo25_1 rfl) ?_
          refine q (ld na23 rfl (by first | exact mR (by assumption) | repeat (first | assumption | exact m0 | apply mS | apply mA)) (by first | rfl | assumption)) ?_
          refine q (mv rfl) ?_
          refine q (ia Try.underlying23 sz3 rfl rfl (by omega) (by omega)) ?_
          refine q (ld na3 rfl (by first | exact mR (by assumption) | repeat (first | assumption | exact m0 | apply mS | apply mA)) (by first | rfl | assumption)) ?_
          refine q (mv rfl) ?_
          refine q (lnS Try.underlying9 rfl) ?_
          refine q (bRem rfl rfl (by omega)) ?_
          refine q (asg rfl) ?_
          refine en ?_
          refine seq ?_
          refine seq ?_
          refine reg ?_
          refine q (mv rfl) ?_
          refine q (bLss rfl rfl) ?_
          refine en ?_
          refine ifd rfl (fun h => ?_) (fun h => ?_)
          · rw [if_pos h] at hT1
            refine reg ?_
            refine q (mv rfl) ?_
            refine q (mv rfl) ?_
            refine q (lnS Try.underlying9 rfl) ?_
            refine q (by first | exact bAddi rfl rfl (by omega) | exact bAdd rfl rfl) ?_
            refine q (asg rfl) ?_
            refine en ?_
            refine reg ?_
            refine q (mv rfl) ?_
            refine q (mv rfl) ?_
            rw [hT1]
            refine q (slT (L := 0) (H := tornN r y) Try.underlying9 rfl rfl rfl (Nat.zero_le _) hT2) ?_
            have hcr : crashF f keep torn k = { recs := f.recs.take L, synced := L, cut := decide ((L : Int) < (n : Int)), torn := r.extract 0 (tornN r y) } := by simp only [crashF, ← hL, hr1, hy, h5, Bool.false_or, hlen, Int.ofNat_lt]
            refine q (fa fo102_3 rfl) ?_
            refine st sz9 rfl rfl rfl (by repeat (first | exact .h | apply In.t | apply In.r)) (by repeat constructor) ?_
            refine en ?_
            refine seq ?_
            refine reg ?_
            refine q (fa fo102_0 rfl) ?_
            refine q (ld na33 rfl (by first | exact mR (by assumption) | repeat (first | assumption | exact m0 | apply mS | apply mA)) (by first | rfl | assumption)) ?_
            refine q (mv rfl) ?_
            refine q (Sp.to (slS (L := 0) (H := L) (M := cap) Try.underlying33 sz9 rfl rfl rfl rfl (by simp) (Nat.zero_le _) (by omega) (by omega)) (u := .slice (some ⟨bR, oR, none⟩) L cap) (by simp [Addr.add])) ?_
            refine cl fb57 rfl ((dClip (by omega) (by omega))) ?_
            rintro v l' ⟨rfl, rfl⟩
            refine q (fa fo102_0 rfl) ?_
            refine st sz33 rfl rfl rfl (by repeat (first | exact .h | apply In.t | apply In.r)) (by repeat constructor) ?_
            refine en ?_
            refine seq ?_
            refine reg ?_
            refine q (mv rfl) ?_
            refine q (fa fo102_1 rfl) ?_
            refine st sz3 rfl rfl rfl (by repeat (first | exact .h | apply In.t | apply In.r)) (by repeat constructor) ?_
            refine en ?_
            refine seq ?_
            refine reg ?_
            refine q (ldA ag102 rfl (by first | exact mR (by assumption) | repeat (first | assumption | exact m0 | apply mS | apply mA)) (by first | assumption | repeat constructor)) ?_
            refine stA sz102 rfl rfl rfl rfl (by repeat (first | exact .h | apply In.t | apply In.r)) (by repeat constructor) ?_
            refine en ?_
            refine ret ?_
            exact finC rfl rfl ag102 m0 (by repeat constructor) (by repeat (first | exact List.Sublist.refl _ | apply List.Sublist.cons)) ⟨.slice (some ⟨bR, oR, none⟩) L L, by rw [hcr] <;> try rfl, by rw [hcr]; exact hsL, rfl⟩
          · rw [if_neg h] at hT1
            refine skp (dSq ?_)
            refine reg ?_
            refine q (mv rfl) ?_
            refine q (mv rfl) ?_
            rw [hT1]
            refine q (slT (L := 0) (H := tornN r y) Try.underlying9 rfl rfl rfl (Nat.zero_le _) hT2) ?_
            have hcr : crashF f keep torn k = { recs := f.recs.take L, synced := L, cut := decide ((L : Int) < (n : Int)), torn := r.extract 0 (tornN r y) } := by simp only [crashF, ← hL, hr1, hy, h5, Bool.false_or, hlen, Int.ofNat_lt]
            refine q (fa fo102_3 rfl) ?_
            refine st sz9 rfl rfl rfl (by repeat (first | exact .h | apply In.t | apply In.r)) (by repeat constructor) ?_
            refine en ?_
            refine seq ?_
            refine reg ?_
            refine q (fa fo102_0 rfl) ?_
            refine q (ld na33 rfl (by first | exact mR (by assumption) | repeat (first | assumption | exact m0 | apply mS | apply mA)) (by first | rfl | assumption)) ?_
            refine q (mv rfl) ?_
            refine q (Sp.to (slS (L := 0) (H := L) (M := cap) Try.underlying33 sz9 rfl rfl rfl rfl (by simp) (Nat.zero_le _) (by omega) (by omega)) (u := .slice (some ⟨bR, oR, none⟩) L cap) (by simp [Addr.add])) ?_
            refine cl fb57 rfl ((dClip (by omega) (by omega))) ?_
            rintro v l' ⟨rfl, rfl⟩
            refine q (fa fo102_0 rfl) ?_
            refine st sz33 rfl rfl rfl (by repeat (first | exact .h | apply In.t | apply In.r)) (by repeat constructor) ?_
            refine en ?_
            refine seq ?_
            refine reg ?_
            refine q (mv rfl) ?_
            refine q (fa fo102_1 rfl) ?_
            refine st sz3 rfl rfl rfl (by repeat (first | exact .h | apply In.t | apply In.r)) (by repeat constructor) ?_
            refine en ?_
            refine seq ?_
            refine reg ?_
            refine q (ldA ag102 rfl (by first | exact mR (by assumption) | repeat (first | assumption | exact m0 | apply mS | apply mA)) (by first | assumption | repeat constructor)) ?_
            refine stA sz102 rfl rfl rfl rfl (by repeat (first | exact .h | apply In.t | apply In.r)) (by repeat constructor) ?_
            refine en ?_
            refine ret ?_
            exact finC rfl rfl ag102 m0 (by repeat constructor) (by repeat (first | exact List.Sublist.refl _ | apply List.Sublist.cons)) ⟨.slice (some ⟨bR, oR, none⟩) L L, by rw [hcr] <;> try rfl, by rw [hcr]; exact hsL, rfl⟩
        · have hy : torn[k]? = none := List.getElem?_eq_none (by omega)
          have hcr : crashF f keep torn k = { recs := f.recs.take L, synced := L, cut := decide ((L : Int) < (n : Int)), torn := f.torn } := by simp only [crashF, ← hL, hy, h5, Bool.false_or, hlen, Int.ofNat_lt]; cases f.recs[L]? <;> rfl
          refine skp (dSq ?_)
          refine seq ?_
          refine reg ?_
          refine q (fa fo102_0 rfl) ?_
          refine q (ld na33 rfl (by first | exact mR (by assumption) | repeat (first | assumption | exact m0 | apply mS | apply mA)) (by first | rfl | assumption)) ?_
          refine q (mv rfl) ?_
          refine q (Sp.to (slS (L := 0) (H := L) (M := cap) Try.underlying33 sz9 rfl rfl rfl rfl (by simp) (Nat.zero_le _) (by omega) (by omega)) (u := .slice p L cap) (by simp [Addr.add])) ?_
          refine cl fb57 rfl ((dClip (by omega) (by omega))) ?_
          rintro v l' ⟨rfl, rfl⟩
          refine q (fa fo102_0 rfl) ?_
          refine st sz33 rfl rfl rfl (by repeat (first | exact .h | apply In.t | apply In.r)) (by repeat constructor) ?_
          refine en ?_
          refine seq ?_
          refine reg ?_
          refine q (mv rfl) ?_
          refine q (fa fo102_1 rfl) ?_
          refine st sz3 rfl rfl rfl (by repeat (first | exact .h | apply In.t | apply In.r)) (by repeat constructor) ?_
          refine en ?_
          refine seq ?_
          refine reg ?_
          refine q (ldA ag102 rfl (by first | exact mR (by assumption) | repeat (first | assumption | exact m0 | apply mS | apply mA)) (by first | assumption | repeat constructor)) ?_
          refine stA sz102 rfl rfl rfl rfl (by repeat (first | exact .h | apply In.t | apply In.r)) (by repeat constructor) ?_
          refine en ?_
          refine ret ?_
          exact finC rfl rfl ag102 m0 (by repeat constructor) (by repeat (first | exact List.Sublist.refl _ | apply List.Sublist.cons)) ⟨.slice p L L, by rw [hcr] <;> try rfl, by rw [hcr]; exact hsL, rfl⟩
      · refine gF rfl rfl rfl ?_
        refine gF rfl rfl rfl ?_
        refine gF rfl rfl rfl ?_
        refine gF rfl rfl rfl ?_
        refine gF rfl rfl rfl ?_
        refine q (by first | exact pkT rfl rfl | exact pkF rfl rfl) ?_
        refine en ?_
        refine ifF rfl ?_
        refine skp (dSq ?_)
        refine seq ?_
        refine reg ?_
        refine q (fa fo102_0 rfl) ?_
        refine q (ld na33 rfl (by first | exact mR (by assumption) | repeat (first | assumption | exact m0 | apply mS | apply mA)) (by first | rfl | assumption)) ?_
        refine q (mv rfl) ?_
        have hr1 : f.recs[L]? = none := List.getElem?_eq_none (by omega)
        have hcr : crashF f keep torn k = { recs := f.recs.take L, synced := L, cut := decide ((L : Int) < (n : Int)), torn := f.torn } := by simp only [crashF, ← hL, hr1, h5, Bool.false_or, hlen, Int.ofNat_lt]
        refine q (Sp.to (slS (L := 0) (H := L) (M := cap) Try.underlying33 sz9 rfl rfl rfl rfl (by simp) (Nat.zero_le _) (by omega) (by omega)) (u := .slice p L cap) (by simp [Addr.add])) ?_
        refine cl fb57 rfl ((dClip (by omega) (by omega))) ?_
        rintro v l' ⟨rfl, rfl⟩
        refine q (fa fo102_0 rfl) ?_
        refine st sz33 rfl rfl rfl (by repeat (first | exact .h | apply In.t | apply In.r)) (by repeat constructor) ?_
        refine en ?_
        refine seq ?_
        refine reg ?_
        refine q (mv rfl) ?_
        refine q (fa fo102_1 rfl) ?_
        refine st sz3 rfl rfl rfl (by repeat (first | exact .h | apply In.t | apply In.r)) (by repeat constructor) ?_
        refine en ?_
        refine seq ?_
        refine reg ?_
        refine q (ldA ag102 rfl (by first | exact mR (by assumption) | repeat (first | assumption | exact m0 | apply mS | apply mA)) (by first | assumption | repeat constructor)) ?_
        refine stA sz102 rfl rfl rfl rfl (by repeat (first | exact .h | apply In.t | apply In.r)) (by repeat constructor) ?_
        refine en ?_
        refine ret ?_
        exact finC rfl rfl ag102 m0 (by repeat constructor) (by repeat (first | exact List.Sublist.refl _ | apply List.Sublist.cons)) ⟨.slice p L L, by rw [hcr] <;> try rfl, by rw [hcr]; exact hsL, rfl⟩
end Go.Proofs.Ytoecfgldnlglnaa

