import Derived.Test.YtoecfgldnlglnaaXDh
set_option linter.unusedVariables false
set_option linter.unusedSimpArgs false
set_option maxRecDepth 20000
namespace Go.Wk
open Go
theorem flat_at {sz : Nat} : ∀ {css : List (List Value)} (h : ∀ c ∈ css, c.length = sz) {i j : Nat} {vs : List Value}, css[i]? = some vs → j < sz → css.flatten[i * sz + j]? = vs[j]?
  | [], _, i, j, vs, hi, _ => by simp at hi
  | c :: css, h, 0, j, vs, hi, hj => by
    simp only [List.getElem?_cons_zero, Option.some.injEq] at hi
    subst hi
    have := h c (List.mem_cons_self ..)
    rw [Nat.zero_mul, Nat.zero_add, List.flatten_cons, List.getElem?_append_left (by omega)]
  | c :: css, h, i + 1, j, vs, hi, hj => by
    have hc := h c (List.mem_cons_self ..)
    have := flat_at (css := css) (fun c hc => h c (List.mem_cons_of_mem _ hc)) (i := i) (j := j) (vs := vs) (by simpa using hi) hj
    rw [List.flatten_cons, List.getElem?_append_right (by rw [hc, Nat.add_mul]; omega), ← this, hc]
    congr 1
    rw [Nat.add_mul]; omega
theorem SlV.atK {sz n cap : Nat} {R : Rd} {p : Option Addr} {css : List (List Value)} (h : SlV sz R (.slice p n cap) css.flatten) (hc : ∀ c ∈ css, c.length = sz) (h0 : 0 < sz) {i : Nat} {vs : List Value} (hi : css[i]? = some vs) :
    ∃ b o cs E fz, p = some ⟨b, o, none⟩ ∧ i < n ∧ R b (.cells (List.toArray cs) E fz) ∧ (∀ j, j < sz → cs[o + (i : Int).toNat * sz + j]? = vs[j]?) ∧ Tk (o + (i : Int).toNat * sz) sz cs vs := by
  have hil : i < css.length := (List.getElem?_eq_some_iff.1 hi).1
  have hfl : css.flatten.length = css.length * sz := by
    clear h hi hil
    induction css with
    | nil => simp
    | cons c css ih => rw [List.flatten_cons, List.length_append, hc c (List.mem_cons_self ..), ih fun c h => hc c (List.mem_cons_of_mem _ h), List.length_cons, Nat.add_mul]; omega
  have hvs : vs.length = sz := hc vs (List.mem_of_getElem? hi)
  obtain ⟨p, n, cap, e, h1, h2⟩ := h
  cases e
  have hn : css.length = n := by
    rw [hfl] at h1
    exact Nat.eq_of_mul_eq_mul_right h0 h1
  rcases h2 with rfl | ⟨b, o, cs, E, fz, h3, h4, h5⟩
  · omega
  · have hle : i * sz + sz ≤ n * sz := by rw [← hn, ← Nat.succ_mul]; exact Nat.mul_le_mul_right _ hil
    have hj : ∀ j, j < sz → cs[o + (i : Int).toNat * sz + j]? = vs[j]? := fun j hj => by
      rw [Int.toNat_natCast, ← flat_at hc hi hj, Nat.add_assoc, h5 _ (by omega)]
    refine ⟨b, o, cs, E, fz, h3, by omega, h4, hj, ?_⟩
    have hlast : o + (i * sz + (sz - 1)) < cs.length := by
      have := hj (sz - 1) (by omega)
      rw [List.getElem?_eq_getElem (show sz - 1 < vs.length by omega)] at this
      have := (List.getElem?_eq_some_iff.1 this).1
      rw [Int.toNat_natCast] at this; omega
    have hT := Tk.any (off := o + (i : Int).toNat * sz) (n := sz) (cs := cs) (by rw [Int.toNat_natCast]; omega)
    have e : (cs.drop (o + (i : Int).toNat * sz)).take sz = vs := by
      apply List.ext_getElem?
      intro j
      by_cases hjs : j < sz
      · rw [List.getElem?_take_of_lt hjs, List.getElem?_drop, hj j hjs]
      · rw [List.getElem?_eq_none (by rw [List.length_take]; omega), List.getElem?_eq_none (by omega)]
    rwa [e] at hT
theorem Tk.two {off : Nat} {cs : List Value} {u v : Value} (h1 : cs[off]? = some u) (h2 : cs[off + 1]? = some v) : Tk off 2 cs [u, v] := by
  have hl : off + 1 < cs.length := (List.getElem?_eq_some_iff.1 h2).1
  have hT := Tk.any (off := off) (n := 2) (cs := cs) (by omega)
  have e : (cs.drop off).take 2 = [u, v] := by
    apply List.ext_getElem?
    intro j
    match j with
    | 0 => simpa using h1
    | 1 => simpa using h2
    | j + 2 => rw [List.getElem?_eq_none (by rw [List.length_take]; omega)]; rfl
  rwa [e] at hT
end Go.Wk
namespace Go.Proofs.Ytoecfgldnlglnaa
open Go Go.Wk Go.Wk.Dsk

/-- A slice of acts. -/
def ActsV (R : Rd) (v : Value) (l : List AM) : Prop :=
  ∃ (p : Option Addr) (n cap : Nat) (css : List (List Value)), v = .slice p n cap ∧ css.length = l.length ∧ n = l.length ∧ (∀ (i : Nat) x cs, l[i]? = some x → css[i]? = some cs → ActV R x cs) ∧ SlV 6 R v css.flatten
theorem ActV.len {R x cs} (h : ActV R x cs) : cs.length = 6 := by
  obtain ⟨_, _, rfl, _⟩ := h; rfl
/-- An act of a slice of them. -/
theorem ActsV.at {R p n cap l} (h : ActsV R (.slice p n cap) l) {i : Nat} (hi : i < n) : ∃ x b o cs E fz vs, l[i]? = some x ∧ p = some ⟨b, o, none⟩ ∧ R b (.cells (List.toArray cs) E fz) ∧ ActV R x vs ∧ (∀ j, j < 6 → cs[o + (i : Int).toNat * 6 + j]? = vs[j]?) ∧ Tk (o + (i : Int).toNat * 6) 6 cs vs := by
  obtain ⟨p, n, cap, css, e, h1, h2, h3, h4⟩ := h
  cases e
  obtain ⟨x, hx⟩ : ∃ x, l[i]? = some x := ⟨_, List.getElem?_eq_getElem (by omega)⟩
  obtain ⟨vs, hvs⟩ : ∃ vs, css[i]? = some vs := ⟨_, List.getElem?_eq_getElem (by omega)⟩
  have hlen : ∀ c ∈ css, c.length = 6 := fun c hc => by
    obtain ⟨j, hj, rfl⟩ := List.mem_iff_getElem.1 hc
    exact (h3 j _ _ (List.getElem?_eq_getElem (by omega)) (List.getElem?_eq_getElem hj)).len
  obtain ⟨b, o, cs, E, fz, rfl, _, h5, h6, h7⟩ := h4.atK hlen (by decide) hvs
  exact ⟨x, b, o, cs, E, fz, vs, hx, rfl, h5, h3 i x vs hx hvs, h6, h7⟩
theorem dGreatCrash {R l pk nk capk pt nt capt} : Tri Try.prog 13 [.agg (List.toArray [.slice pk nk capk, .slice pt nt capt])] R l fun v l' => ∃ b, v = .bool b ∧ (b = false → nk ≤ 60 ∧ nt ≤ 60) ∧ l' = l := by
  refine enter Try.func13 rfl rfl (by kernel_rfl) rfl fun w0 => ?_
  refine seq ?_
  refine reg ?_
  refine bx rfl rfl ?_
  intro b1
  refine q (asg rfl) ?_
  refine en ?_
  refine seq ?_
  refine reg ?_
  refine q (fa fo25_0 rfl) ?_
  refine q (ld na23 rfl (by first | exact mR (by assumption) | repeat (first | assumption | exact m0 | apply mS | apply mA)) (by first | rfl | assumption)) ?_
  refine q (lnL Try.underlying23 rfl) ?_
  refine q (bGtr rfl rfl) ?_
  refine q (mv rfl) ?_
  refine decd (t := 7) rfl (fun h => ?_) (fun h => ?_)
  · refine gF rfl rfl rfl ?_
    refine gF rfl rfl rfl ?_
    refine gF rfl rfl rfl ?_
    refine gF rfl rfl rfl ?_
    refine q (by first | exact pkT rfl rfl | exact pkF rfl rfl) ?_
    refine q (asg rfl) ?_
    refine en ?_
    refine ret ?_
    exact finQ l rfl rfl (fun a => by simp only [cnt_append, cnt_cons, cnt_nil]; omega) ⟨true, rfl, (fun hb => by cases hb), rfl⟩
  · refine gT rfl rfl ?_
    refine q (fa fo25_1 rfl) ?_
    refine gT rfl rfl ?_
    refine q (ld na23 rfl (by first | exact mR (by assumption) | repeat (first | assumption | exact m0 | apply mS | apply mA)) (by first | rfl | assumption)) ?_
    refine gT rfl rfl ?_
    refine q (lnL Try.underlying23 rfl) ?_
    refine gT rfl rfl ?_
    refine q (bGtr rfl rfl) ?_
    refine q (by first | exact pkT rfl rfl | exact pkF rfl rfl) ?_
    refine q (asg rfl) ?_
    refine en ?_
    refine ret ?_
    exact finQ l rfl rfl (fun a => by simp only [cnt_append, cnt_cons, cnt_nil]; omega) ⟨_, rfl, (fun hb => by simp at hb; omega), rfl⟩
/-- Acts no greater than statements go through. -/
def Small (l : List AM) : Prop := l.length ≤ 100 ∧ ∀ x ∈ l, x.a.size ≤ 20000 ∧ x.b.size ≤ 20000 ∧ x.keep.length ≤ 60 ∧ x.torn.length ≤ 60
theorem dGreat {R l v acts} (hA : ActsV R v acts) : Tri Try.prog 12 [v] R l fun v l' => ∃ b, v = .bool b ∧ (b = false → Small acts) ∧ l' = l := by
  have h' := hA
  obtain ⟨p, n, cap, _, rfl, _, hn, _⟩ := h'
  refine enter Try.func12 rfl rfl (by kernel_rfl) rfl fun w0 => ?_
  refine seq ?_
  refine reg ?_
  refine q (asg rfl) ?_
  refine en ?_
  refine seq ?_
  refine seq ?_
  refine reg ?_
  refine q (mv rfl) ?_
  refine q (lnL Try.underlying22 rfl) ?_
  refine q (bGtr rfl rfl) ?_
  refine en ?_
  refine ifd rfl (fun h => ?_) (fun h => ?_)
  · refine seq ?_
    refine reg ?_
    refine q (asg rfl) ?_
    refine en ?_
    refine ret (dSr ?_)
    exact finQ l rfl rfl (fun a => Nat.le_refl _) ⟨true, rfl, (fun hb => by cases hb), rfl⟩
  · refine skp (dSq ?_)
    refine seq ?_
    refine reg ?_
    refine q (asg rfl) ?_
    refine en ?_
    refine seq ?_
    refine seq ?_
    refine reg ?_
    refine q (asg rfl) ?_
    refine en ?_
    refine blk ?_
    refine cSub (e' := [(0, .slice p n cap), (3, .int .i64 (0 : Nat)), (4, .int .i64 (0 : Nat))]) (by repeat first | exact Sub.nil | refine Sub.cons rfl ?_) ?_
    refine loop (fun m' e l' => ∃ i k : Nat, l' = l ∧ e = [(0, .slice p n cap), (3, .int .i64 k), (4, .int .i64 i)] ∧ m' = n - i ∧ i ≤ n ∧ k ≤ 40000 * i ∧ ∀ j x, j < i → acts[j]? = some x → x.a.size ≤ 20000 ∧ x.b.size ≤ 20000 ∧ x.keep.length ≤ 60 ∧ x.torn.length ≤ 60) n ⟨0, 0, rfl, rfl, rfl, Nat.zero_le _, Nat.zero_le _, fun j x h => absurd h (by omega)⟩ ?_
    rintro m' _ _ ⟨i, k, rfl, rfl, rfl, hi, hk, hall⟩
    refine seq ?_
    refine seq ?_
    refine reg ?_
    refine q (mv rfl) ?_
    refine q (mv rfl) ?_
    refine q (lnL Try.underlying22 rfl) ?_
    refine q (bLss rfl rfl) ?_
    refine en ?_
    refine ifd rfl (fun h => ?_) (fun h => ?_)
    · have hin : i < n := by omega
      obtain ⟨x, b, o, cs, E, fz, vs, hx, rfl, hR, ⟨sk, st, rfl, hkS, htS⟩, hj, hT⟩ := hA.at hin
      obtain ⟨pk, nk, capk, rfl, hlk⟩ := hkS.len
      obtain ⟨pt, nt, capt, rfl, hlt⟩ := htS.len
      simp only [List.length_map, Nat.mul_one] at hlk hlt
      have hj1 : cs[o + (i : Int).toNat * 6 + 1]? = some (.string x.a) := hj 1 (by decide)
      have hj2 : cs[o + (i : Int).toNat * 6 + 2]? = some (.string x.b) := hj 2 (by decide)
      have hj4 : Tk (o + (i : Int).toNat * 6 + 4) 2 cs [.slice pk nk capk, .slice pt nt capt] := Tk.two (hj 4 (by decide)) (hj 5 (by decide))
      have hxs : ∀ j y, j < i + 1 → acts[j]? = some y → (x.a.size ≤ 20000 ∧ x.b.size ≤ 20000 ∧ x.keep.length ≤ 60 ∧ x.torn.length ≤ 60) → y.a.size ≤ 20000 ∧ y.b.size ≤ 20000 ∧ y.keep.length ≤ 60 ∧ y.torn.length ≤ 60 := fun j y hj hy hs => by
        by_cases h : j = i
        · subst h; rw [hx] at hy; cases hy; exact hs
        · exact hall j y (by omega) hy
      refine skp (dSq ?_)
      refine seq ?_
      refine blk ?_
      refine seq ?_
      refine seq ?_
      refine reg ?_
      refine q (mv rfl) ?_
      refine q (mv rfl) ?_
      refine q (ia Try.underlying22 sz44 rfl rfl (by omega) (by omega)) ?_
      refine q (fa fo44_1 rfl) ?_
      refine q (ld na9 rfl (by first | exact mR (by assumption) | repeat (first | assumption | exact m0 | apply mS | apply mA)) (by first | rfl | assumption)) ?_
      refine q (lnS Try.underlying9 rfl) ?_
      refine q (bGtr rfl rfl) ?_
      refine q (mv rfl) ?_
      refine decd (t := 21) rfl (fun h1 => ?_) (fun h1 => ?_)
      · refine gF rfl rfl rfl ?_
        refine gF rfl rfl rfl ?_
        refine gF rfl rfl rfl ?_
        refine gF rfl rfl rfl ?_
        refine gF rfl rfl rfl ?_
        refine gF rfl rfl rfl ?_
        refine gF rfl rfl rfl ?_
        refine q (by first | exact pkT rfl rfl | exact pkF rfl rfl) ?_
        refine q (mv rfl) ?_
        refine gF rfl rfl rfl ?_
        refine gF rfl rfl rfl ?_
        refine gF rfl rfl rfl ?_
        refine gF rfl rfl rfl ?_
        refine gF rfl rfl rfl ?_
        refine gF rfl rfl rfl ?_
        refine q (by first | exact pkT rfl rfl | exact pkF rfl rfl) ?_
        refine en ?_
        refine ifT rfl ?_
        refine seq ?_
        refine reg ?_
        refine q (asg rfl) ?_
        refine en ?_
        refine ret (dSr (dBr (dSr (dLr (dBr (dSr ?_))))))
        exact finQ _ rfl rfl (fun a => Nat.le_refl _) ⟨true, rfl, (fun hb => by cases hb), rfl⟩
      · refine gT rfl rfl ?_
        refine q (mv rfl) ?_
        refine gT rfl rfl ?_
        refine q (mv rfl) ?_
        refine gT rfl rfl ?_
        refine q (ia Try.underlying22 sz44 rfl rfl (by omega) (by omega)) ?_
        refine gT rfl rfl ?_
        refine q (fa fo44_2 rfl) ?_
        refine gT rfl rfl ?_
        refine q (ld na9 rfl (by first | exact mR (by assumption) | repeat (first | assumption | exact m0 | apply mS | apply mA)) (by first | rfl | assumption)) ?_
        refine gT rfl rfl ?_
        refine q (lnS Try.underlying9 rfl) ?_
        refine gT rfl rfl ?_
        refine q (bGtr rfl rfl) ?_
        refine q (by first | exact pkT rfl rfl | exact pkF rfl rfl) ?_
        refine q (mv rfl) ?_
        refine decd (t := 30) rfl (fun h2 => ?_) (fun h2 => ?_)
        · refine gF rfl rfl rfl ?_
          refine gF rfl rfl rfl ?_
          refine gF rfl rfl rfl ?_
          refine gF rfl rfl rfl ?_
          refine gF rfl rfl rfl ?_
          refine gF rfl rfl rfl ?_
          refine q (by first | exact pkT rfl rfl | exact pkF rfl rfl) ?_
          refine en ?_
          refine ifT rfl ?_
          refine seq ?_
          refine reg ?_
          refine q (asg rfl) ?_
          refine en ?_
          refine ret (dSr (dBr (dSr (dLr (dBr (dSr ?_))))))
          exact finQ _ rfl rfl (fun a => Nat.le_refl _) ⟨true, rfl, (fun hb => by cases hb), rfl⟩
        · refine gT rfl rfl ?_
          refine q (mv rfl) ?_
          refine gT rfl rfl ?_
          refine q (mv rfl) ?_
          refine gT rfl rfl ?_
          refine q (ia Try.underlying22 sz44 rfl rfl (by omega) (by omega)) ?_
          refine gT rfl rfl ?_
          refine q (fa fo44_4 rfl) ?_
          refine gT rfl rfl ?_
          refine q (ldA ag25 rfl (by first | exact mR (by assumption) | repeat (first | assumption | exact m0 | apply mS | apply mA)) (by first | assumption | repeat constructor)) ?_
          refine gT rfl rfl ?_
          refine cl fb13 rfl (dGreatCrash) ?_
          rintro _ _ ⟨b', rfl, hb, rfl⟩
          refine q (by first | exact pkT rfl rfl | exact pkF rfl rfl) ?_
          refine en ?_
          refine ifb rfl (fun h => ?_) (fun h => ?_)
          · refine seq ?_
            refine reg ?_
            refine q (asg rfl) ?_
            refine en ?_
            refine ret (dSr (dBr (dSr (dLr (dBr (dSr ?_))))))
            exact finQ _ rfl rfl (fun a => Nat.le_refl _) ⟨true, rfl, (fun hb => by cases hb), rfl⟩
          · refine skp (dSq ?_)
            refine drw (by kernel_rfl) [(.q, 0), (.q, 1), (.q, 2), (.q, 3), (.q, 4), (.q, 5), (.q, 6), (.q, 7), (.q, 8), (.q, 9), (.q, 10), (.q, 11), (.q, 12), (.q, 13), (.q, 14), (.q, 15)] _ rfl (by kernel_rfl) (by kernel_rfl) trivial ?_
            refine xq rfl (mv rfl) ?_
            refine xq rfl (mv rfl) ?_
            refine xq rfl (mv rfl) ?_
            refine xq rfl (ia Try.underlying22 sz44 rfl rfl (by omega) (by omega)) ?_
            refine xq rfl (fa fo44_1 rfl) ?_
            refine xq rfl (ld na9 rfl (by first | exact mR (by assumption) | repeat (first | assumption | exact m0 | apply mS | apply mA)) (by first | rfl | assumption)) ?_
            refine xq rfl (lnS Try.underlying9 rfl) ?_
            refine xq rfl ((by first | exact bAddi rfl rfl (by omega) | exact bAdd rfl rfl)) ?_
            refine xq rfl (mv rfl) ?_
            refine xq rfl (mv rfl) ?_
            refine xq rfl (ia Try.underlying22 sz44 rfl rfl (by omega) (by omega)) ?_
            refine xq rfl (fa fo44_2 rfl) ?_
            refine xq rfl (ld na9 rfl (by first | exact mR (by assumption) | repeat (first | assumption | exact m0 | apply mS | apply mA)) (by first | rfl | assumption)) ?_
            refine xq rfl (lnS Try.underlying9 rfl) ?_
            refine xq rfl ((by first | exact bAddi rfl rfl (by omega) | exact bAdd rfl rfl)) ?_
            refine xq rfl (asg rfl) ?_
            refine dBn (dSq ?_)
            refine reg ?_
            refine q (mv rfl) ?_
            refine q (by first | exact bAddi rfl rfl (by omega) | exact bAdd rfl rfl) ?_
            refine q (asg rfl) ?_
            refine enD ?_
            refine dLp (m' := n - (i + 1)) (e' := [(0, .slice (some ⟨b, o, none⟩) n cap), (3, .int .i64 (k + x.a.size + x.b.size : Nat)), (4, .int .i64 (i + 1 : Nat))]) (by omega) (by repeat first | exact Sub.nil | refine Sub.cons rfl ?_) ?_
            have hb' := hb h
            exact ⟨i + 1, _, rfl, rfl, rfl, by omega, by omega, fun j y hj hy => hxs j y hj hy ⟨by omega, by omega, by omega, by omega⟩⟩
    · refine exi (dSe (dLe (dBe (dSq ?_))))
      refine seq ?_
      refine reg ?_
      refine q (mv rfl) ?_
      refine q (bGtr rfl rfl) ?_
      refine q (asg rfl) ?_
      refine en ?_
      refine ret ?_
      exact finQ _ rfl rfl (fun a => Nat.le_refl _) ⟨_, rfl, (fun hb => ⟨by omega, fun x hx => by
        obtain ⟨j, hj, rfl⟩ := List.mem_iff_getElem.1 hx
        exact hall j _ (by omega) (List.getElem?_eq_getElem hj)⟩), rfl⟩
end Go.Proofs.Ytoecfgldnlglnaa

