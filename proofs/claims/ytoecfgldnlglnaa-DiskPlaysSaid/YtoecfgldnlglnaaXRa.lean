import Derived.Test.YtoecfgldnlglnaaXMore
import Derived.Test.YtoecfgldnlglnaaXInf
set_option linter.unusedVariables false
set_option linter.unusedSimpArgs false
set_option maxRecDepth 20000
namespace Go.Proofs.Ytoecfgldnlglnaa
open Go Go.Wk Go.Wk.Dsk

/-- The document's file. -/
def fileW (n : ByteArray) (s : Value) (f : File) : List Value := [.string n, s, .int .i64 f.synced, .bool f.cut, .string f.torn]
def RepF (M : Rd) (cs : List Value) (x : ByteArray × File) : Prop := ∃ s, cs = fileW x.1 s x.2 ∧ SlC 1 M s (x.2.recs.map .string)
theorem kF : RepK 5 RepF := ⟨by decide, fun M cs x ⟨s, h, _⟩ => h ▸ rfl, fun M cs x ⟨s, h, hs⟩ => by
  obtain ⟨p, n, cap, rfl, _⟩ := hs.len
  exact h ▸ rfl, fun M M' cs x hM ⟨s, h, hs⟩ => ⟨s, h, hs.mono hM⟩⟩
abbrev wO (v : Value) (off : Bool) (left : Int) : Obj := .cells (List.toArray [v, .bool off, .int .i64 left]) 53 (0, 0)
abbrev Fz (bl : Bl) : Rd := fun b o => (b, o) ∈ bl
def IsW (w : Nat) (D : DM) (l : Bl) : Prop :=
  ∃ v bkf bl, l = (w, wO v D.off D.fuse) :: (bkf ++ bl) ∧ OSl 115 5 RepF (Fz bl) v D.fs bkf
theorem IsW.mk {w D v bkf bl off fuse} (h : OSl 115 5 RepF (Fz bl) v D.fs bkf) (h1 : D.off = off) (h2 : D.fuse = fuse) : IsW w D ((w, wO v off fuse) :: (bkf ++ bl)) := by subst h1 h2; exact ⟨v, bkf, bl, rfl, h⟩
/-- .. as it is read. -/
def RdW (M : Rd) (w : Nat) (D : DM) : Prop := ∃ p cap, M w (wO (.slice p D.fs.length cap) D.off D.fuse) ∧ RSl 5 RepF M (.slice p D.fs.length cap) D.fs
theorem IsW.rd {w D l} {M : Rd} (h : IsW w D l) (hM : ∀ x ∈ l, M x.1 x.2) : RdW M w D := by
  obtain ⟨v, bkf, bl, rfl, ho⟩ := h
  have hr := ho.toR kF (M' := M) (fun b o hb => hM (b, o) (by simp [hb])) (fun x hx => hM x (by simp [hx]))
  obtain ⟨p, cap, rfl⟩ := ho.val kF
  exact ⟨p, cap, hM (w, _) (List.mem_cons_self ..), hr⟩
theorem rRight {R} (s : ByteArray) (hs : s.size ≤ 1000000000000) : Tri Try.prog 101 [.string s] R [] fun v l' => v = .bool (right s) ∧ l' = [] := by
  refine enter Try.func101 rfl rfl (by kernel_rfl) rfl fun w0 => ?_
  refine seq ?_
  refine reg ?_
  refine q (asg rfl) ?_
  refine en ?_
  refine seq ?_
  refine reg ?_
  refine q (mv rfl) ?_
  refine q (lnS Try.underlying9 rfl) ?_
  refine q (bGeq rfl rfl) ?_
  refine q (mv rfl) ?_
  refine decd (t := 6) rfl (fun h => ?_) (fun h => ?_)
  · refine gT rfl rfl ?_
    refine q (mv rfl) ?_
    refine gT rfl rfl ?_
    refine q (lnS Try.underlying9 rfl) ?_
    refine gT rfl rfl ?_
    refine q (bLeq rfl rfl) ?_
    refine q (by first | exact pkT rfl rfl | exact pkF rfl rfl) ?_
    refine q (asg rfl) ?_
    refine en ?_
    refine ret ?_
    refine fin0 rfl rfl ⟨?_, rfl⟩
    have h1 : s ≠ ⟨#[]⟩ := fun e => by subst e; have : ByteArray.size ⟨#[]⟩ = 0 := rfl; omega
    simp only [right, h1, ne_eq, not_false_eq_true, true_and]
    congr 1
    exact decide_eq_decide.2 (by omega)
  · first | refine gF rfl rfl rfl ?_ | refine gU rfl rfl ?_
    first | refine gF rfl rfl rfl ?_ | refine gU rfl rfl ?_
    first | refine gF rfl rfl rfl ?_ | refine gU rfl rfl ?_
    refine q (by first | exact pkT rfl rfl | exact pkF rfl rfl) ?_
    refine q (asg rfl) ?_
    refine en ?_
    refine ret ?_
    refine fin0 rfl rfl ⟨?_, rfl⟩
    have h1 : s = ⟨#[]⟩ := ByteArray.ext (Array.eq_empty_of_size_eq_zero (by show s.size = 0; omega))
    simp [right, h1]
theorem rGoes {R v w} {D : DM} {rest : Bl} (hoff : D.off = false) (hf : 0 ≤ D.fuse ∧ D.fuse ≤ 9223372036854775807) : Tri Try.prog 103 [.pointer (some ⟨w, 0, none⟩)] R ((w, wO v D.off D.fuse) :: rest) fun u l' => u = .bool (!(burn D).off) ∧ l' = (w, wO v (burn D).off (burn D).fuse) :: rest := by
  refine enter Try.func103 rfl rfl (by kernel_rfl) rfl fun w0 => ?_
  refine seq ?_
  refine reg ?_
  refine q (asg rfl) ?_
  refine en ?_
  refine seq ?_
  refine seq ?_
  refine reg ?_
  refine q (mv rfl) ?_
  refine q (nck rfl) ?_
  refine q (fa fo53_2 rfl) ?_
  refine q (ld na3 rfl (by first | exact mR (by assumption) | repeat (first | assumption | exact m0 | apply mS | apply mA)) (by first | rfl | assumption)) ?_
  refine q (bEql rfl rfl) ?_
  refine en ?_
  refine ifd rfl (fun h => ?_) (fun h => ?_)
  · refine reg ?_
    refine q (mv rfl) ?_
    refine q (nck rfl) ?_
    refine q (fa fo53_1 rfl) ?_
    refine st sz4 rfl rfl rfl (by repeat (first | exact .h | apply In.t | apply In.r)) (by first | assumption | repeat constructor) ?_
    refine en ?_
    refine seq ?_
    refine seq ?_
    refine reg ?_
    refine q (mv rfl) ?_
    refine q (nck rfl) ?_
    refine q (fa fo53_2 rfl) ?_
    refine q (ld na3 rfl (by first | exact mR (by assumption) | repeat (first | assumption | exact m0 | apply mS | apply mA)) (by first | rfl | assumption)) ?_
    refine q (bGtr rfl rfl) ?_
    refine en ?_
    refine ifd rfl (fun h2 => ?_) (fun h2 => ?_)
    · refine reg ?_
      refine q (mv rfl) ?_
      refine q (mv rfl) ?_
      refine q (nck rfl) ?_
      refine q (fa fo53_2 rfl) ?_
      refine q (ld na3 rfl (by first | exact mR (by assumption) | repeat (first | assumption | exact m0 | apply mS | apply mA)) (by first | rfl | assumption)) ?_
      refine q (by first | exact bSubi rfl rfl (by omega) | exact bSub rfl rfl) ?_
      refine q (nck rfl) ?_
      refine q (fa fo53_2 rfl) ?_
      refine st sz3 rfl rfl rfl (by repeat (first | exact .h | apply In.t | apply In.r)) (by first | assumption | repeat constructor) ?_
      refine en ?_
      refine seq ?_
      refine reg ?_
      refine q (mv rfl) ?_
      refine q (nck rfl) ?_
      refine q (fa fo53_1 rfl) ?_
      refine q (ld na4 rfl (by first | exact mR (by assumption) | repeat (first | assumption | exact m0 | apply mS | apply mA)) (by first | rfl | assumption)) ?_
      refine q (by first | exact bNotd rfl | exact bNot rfl) ?_
      refine q (asg rfl) ?_
      refine en ?_
      refine ret ?_
      have hb : burn D = ⟨D.fs, true, D.fuse - 1⟩ := by unfold burn; rw [if_pos (by omega)]; simp [h]
      rw [hb]
      exact finQ _ rfl rfl (fun a => Nat.le_refl _) ⟨rfl, rfl⟩
    · omega
  · refine skp (dSq ?_)
    refine seq ?_
    refine seq ?_
    refine reg ?_
    refine q (mv rfl) ?_
    refine q (nck rfl) ?_
    refine q (fa fo53_2 rfl) ?_
    refine q (ld na3 rfl (by first | exact mR (by assumption) | repeat (first | assumption | exact m0 | apply mS | apply mA)) (by first | rfl | assumption)) ?_
    refine q (bGtr rfl rfl) ?_
    refine en ?_
    refine ifd rfl (fun h2 => ?_) (fun h2 => ?_)
    · refine reg ?_
      refine q (mv rfl) ?_
      refine q (mv rfl) ?_
      refine q (nck rfl) ?_
      refine q (fa fo53_2 rfl) ?_
      refine q (ld na3 rfl (by first | exact mR (by assumption) | repeat (first | assumption | exact m0 | apply mS | apply mA)) (by first | rfl | assumption)) ?_
      refine q (by first | exact bSubi rfl rfl (by omega) | exact bSub rfl rfl) ?_
      refine q (nck rfl) ?_
      refine q (fa fo53_2 rfl) ?_
      refine st sz3 rfl rfl rfl (by repeat (first | exact .h | apply In.t | apply In.r)) (by first | assumption | repeat constructor) ?_
      refine en ?_
      refine seq ?_
      refine reg ?_
      refine q (mv rfl) ?_
      refine q (nck rfl) ?_
      refine q (fa fo53_1 rfl) ?_
      refine q (ld na4 rfl (by first | exact mR (by assumption) | repeat (first | assumption | exact m0 | apply mS | apply mA)) (by first | rfl | assumption)) ?_
      refine q (by first | exact bNotd rfl | exact bNot rfl) ?_
      refine q (asg rfl) ?_
      refine en ?_
      refine ret ?_
      have hb : burn D = ⟨D.fs, false, D.fuse - 1⟩ := by unfold burn; rw [if_pos (by omega)]; simp; omega
      rw [hb]
      exact finQ _ rfl rfl (fun a => Nat.le_refl _) ⟨by rw [hoff], by rw [hoff]⟩
    · refine skp (dSq ?_)
      refine seq ?_
      refine reg ?_
      refine q (mv rfl) ?_
      refine q (nck rfl) ?_
      refine q (fa fo53_1 rfl) ?_
      refine q (ld na4 rfl (by first | exact mR (by assumption) | repeat (first | assumption | exact m0 | apply mS | apply mA)) (by first | rfl | assumption)) ?_
      refine q (by first | exact bNotd rfl | exact bNot rfl) ?_
      refine q (asg rfl) ?_
      refine en ?_
      refine ret ?_
      have hb : burn D = D := by unfold burn; rw [if_neg (by omega)]
      rw [hb]
      exact finQ _ rfl rfl (fun a => Nat.le_refl _) ⟨rfl, rfl⟩
theorem RdW.mono {w D} {M M' : Rd} (h : RdW M w D) (hM : ∀ b o, M b o → M' b o) : RdW M' w D := by
  obtain ⟨p, cap, h1, h2⟩ := h
  exact ⟨p, cap, hM _ _ h1, h2.mono kF hM⟩
/-- A name's place. -/
def fnd : Fs → ByteArray → Option Nat
  | [], _ => none
  | (m, _) :: r, n => if n = m then some 0 else (fnd r n).map (· + 1)
theorem fnd_some {fs : Fs} {n : ByteArray} {i : Nat} (h : (fs.map (·.1))[i]? = some n) (hb : ∀ j m, j < i → (fs.map (·.1))[j]? = some m → m ≠ n) : fnd fs n = some i := by
  induction fs generalizing i with
  | nil => simp at h
  | cons p r ih =>
    obtain ⟨m, f⟩ := p
    unfold fnd
    cases i with
    | zero => simp at h; rw [if_pos h.symm]
    | succ i =>
      have h0 := hb 0 m (by omega) rfl
      rw [if_neg (fun e => h0 e.symm), ih (by simpa using h) fun j m' hj hm => hb (j + 1) m' (by omega) (by simpa using hm)]
      rfl
theorem fnd_none {fs : Fs} {n : ByteArray} (hb : ∀ m ∈ fs.map (·.1), m ≠ n) : fnd fs n = none := by
  induction fs with
  | nil => rfl
  | cons p r ih =>
    obtain ⟨m, f⟩ := p
    unfold fnd
    rw [if_neg (fun e => hb m (by simp) e.symm), ih fun m hm => hb m (by simp [hm])]
    rfl
theorem fnd_get {fs : Fs} {n : ByteArray} : (match fnd fs n with | some i => ∃ f, fs[i]? = some (n, f) ∧ Dsk.get fs n = some f | none => Dsk.get fs n = none) := by
  induction fs with
  | nil => rfl
  | cons p r ih =>
    obtain ⟨m, f⟩ := p
    unfold fnd Dsk.get
    by_cases h : n = m
    · subst h; simp
    · rw [if_neg h, if_neg h]
      cases hf : fnd r n with
      | none => rw [hf] at ih; exact ih
      | some i => rw [hf] at ih; simpa using ih
def fndI (fs : Fs) (n : ByteArray) : Int := match fnd fs n with | some i => (i : Int) | none => -1
theorem rFind {R w D n} (hD : RdW R w D) (hK : D.fs.length ≤ 1000000) : Tri Try.prog 102 [.pointer (some ⟨w, 0, none⟩), .string n] R [] fun v l' => v = .int .i64 (fndI D.fs n) ∧ l' = [] := by
  obtain ⟨p, cap, hw, hV⟩ := hD
  refine enter Try.func102 rfl rfl (by kernel_rfl) rfl fun w0 => ?_
  refine seq ?_
  refine reg ?_
  refine q (asg rfl) ?_
  refine en ?_
  refine seq ?_
  refine seq ?_
  refine reg ?_
  refine q (asg rfl) ?_
  refine en ?_
  refine blk ?_
  refine cSub (e' := [(0, .pointer (some ⟨w, 0, none⟩)), (1, .string n), (5, .int .i64 (0 : Nat))]) (by repeat first | exact Sub.nil | refine Sub.cons rfl ?_) ?_
  refine loop (fun m' e l' => ∃ i : Nat, l' = [] ∧ e = [(0, .pointer (some ⟨w, 0, none⟩)), (1, .string n), (5, .int .i64 i)] ∧ m' = D.fs.length - i ∧ i ≤ D.fs.length ∧ ∀ j m, j < i → (D.fs.map (·.1))[j]? = some m → m ≠ n) D.fs.length ⟨0, rfl, rfl, rfl, Nat.zero_le _, fun j m h => absurd h (by omega)⟩ ?_
  rintro m' _ _ ⟨i, rfl, rfl, rfl, hi, hall⟩
  refine seq ?_
  refine seq ?_
  refine reg ?_
  refine q (mv rfl) ?_
  refine q (mv rfl) ?_
  refine q (nck rfl) ?_
  refine q (fa fo53_0 rfl) ?_
  refine q (ld na51 rfl (by first | exact mR (by assumption) | repeat (first | assumption | exact m0 | apply mS | apply mA)) (by first | rfl | assumption)) ?_
  refine q (lnL Try.underlying51 rfl) ?_
  refine q (bLss rfl rfl) ?_
  refine en ?_
  refine ifd rfl (fun h => ?_) (fun h => ?_)
  · have hin : i < D.fs.length := by omega
    obtain ⟨⟨nm, f⟩, hx⟩ : ∃ q, D.fs[i]? = some q := ⟨_, List.getElem?_eq_getElem hin⟩
    obtain ⟨b, o, cs, E, fz, vs, rfl, _, hR, ⟨s, rfl, hs⟩, hj, hT⟩ := hV.at kF hx
    have hj0 : cs[o + (i : Int).toNat * 5 + 0]? = some (.string nm) := hj 0 (by decide)
    refine skp (dSq ?_)
    refine seq ?_
    refine blk ?_
    refine seq ?_
    refine reg ?_
    refine q (mv rfl) ?_
    refine q (nck rfl) ?_
    refine q (fa fo53_0 rfl) ?_
    refine q (ld na51 rfl (by first | exact mR (by assumption) | repeat (first | assumption | exact m0 | apply mS | apply mA)) (by first | rfl | assumption)) ?_
    refine q (mv rfl) ?_
    refine q (ia Try.underlying51 sz115 rfl rfl (by omega) (by omega)) ?_
    refine q (fa fo115_0 rfl) ?_
    refine q (ld na9 rfl (by first | exact mR (by assumption) | repeat (first | assumption | exact m0 | apply mS | apply mA)) (by first | rfl | assumption)) ?_
    refine q (mv rfl) ?_
    refine q (sEql rfl rfl) ?_
    refine en ?_
    refine ifd rfl (fun heq => ?_) (fun heq => ?_)
    · refine seq ?_
      refine reg ?_
      refine q (mv rfl) ?_
      refine q (asg rfl) ?_
      refine en ?_
      refine ret (dBr (dSr (dLr (dBr (dSr ?_)))))
      have e : fnd D.fs n = some i := fnd_some (by rw [List.getElem?_map, hx, ← heq]; rfl) hall
      exact finQ _ rfl rfl (fun a => Nat.le_refl _) ⟨by simp [fndI, e], rfl⟩
    · refine skp (dBn (dSq ?_))
      refine reg ?_
      refine q (mv rfl) ?_
      refine q (by first | exact bAddi rfl rfl (by omega) | exact bAdd rfl rfl) ?_
      refine q (asg rfl) ?_
      refine enD ?_
      refine dLp (m' := D.fs.length - (i + 1)) (e' := [(0, .pointer (some ⟨w, 0, none⟩)), (1, .string n), (5, .int .i64 (i + 1 : Nat))]) (by omega) (by repeat first | exact Sub.nil | refine Sub.cons rfl ?_) ?_
      refine ⟨i + 1, rfl, rfl, rfl, by omega, fun j m hj hm => ?_⟩
      by_cases hji : j = i
      · subst hji
        rw [List.getElem?_map, hx] at hm
        cases hm
        exact heq
      · exact hall j m (by omega) hm
  · refine exi (dSe (dLe (dBe (dSq ?_))))
    refine seq ?_
    refine reg ?_
    refine q (asg rfl) ?_
    refine en ?_
    refine ret ?_
    have e : fnd D.fs n = none := fnd_none fun m hm => by
      obtain ⟨j, hj⟩ := List.mem_iff_getElem?.1 hm
      have := (List.getElem?_eq_some_iff.1 hj).1
      exact hall j m (by simp at this; omega) hj
    exact finQ _ rfl rfl (fun a => Nat.le_refl _) ⟨by simp [fndI, e], rfl⟩
/-- A file put in, as the document's loop does it. -/
def pu (n : ByteArray) (f : File) : Bool → Fs → Fs
  | d, [] => if d then [] else [(n, f)]
  | d, (m, g) :: r => if m = n then pu n f d r else if d = false ∧ sLt n m = true then (n, f) :: (m, g) :: pu n f true r else (m, g) :: pu n f d r
theorem pu_true {n f} : ∀ {fs : Fs}, (∀ p ∈ fs, p.1 ≠ n) → pu n f true fs = fs
  | [], _ => rfl
  | (m, g) :: r, h => by
    rw [pu, if_neg (h (m, g) (by simp)), if_neg (by simp), pu_true fun p hp => h p (by simp [hp])]
theorem pu_first {n f} : ∀ {fs : Fs}, (∀ p ∈ fs, sLt n p.1 = true) → pu n f false fs = (n, f) :: fs
  | [], _ => rfl
  | (m, g) :: r, h => by
    have h1 := h (m, g) (by simp)
    rw [pu, if_neg (fun e => sLt_ne h1 e.symm), if_pos ⟨rfl, h1⟩]
    rw [pu_true]
    exact fun p hp e => sLt_ne (h p (by simp [hp])) e.symm
theorem pu_put {n f} : ∀ {fs : Fs}, Sd fs → pu n f false fs = put fs n f
  | [], _ => rfl
  | (m, g) :: r, h => by
    have hr := List.pairwise_cons.1 h
    rw [pu, put]
    by_cases e : m = n
    · subst e
      rw [if_pos rfl, if_pos rfl, pu_first hr.1]
    · rw [if_neg e, if_neg (show ¬ n = m from fun h => e h.symm)]
      by_cases h1 : sLt n m = true
      · rw [if_pos ⟨rfl, h1⟩, if_pos h1, pu_true]
        exact fun p hp e' => sLt_ne (sLt_trans h1 (hr.1 p hp)) e'.symm
      · rw [if_neg (fun h => h1 h.2), if_neg h1, pu_put hr.2]
theorem rPut {R l w} {D : DM} {n s} {f : File} {v bkf bl} (hl : l = (w, wO v D.off D.fuse) :: (bkf ++ bl)) (hD : OSl 115 5 RepF (Fz bl) v D.fs bkf) (hs : SlC 1 (Fz bl) s (f.recs.map .string)) (hsd : Sd D.fs) (hK : D.fs.length ≤ 1000000) :
    Tri Try.prog 104 [.pointer (some ⟨w, 0, none⟩), .agg (fileW n s f).toArray] R l fun v l' => v = .tuple #[] ∧ IsW w { D with fs := put D.fs n f } l' := by
  subst hl
  obtain ⟨p, cap, rfl⟩ := hD.val kF
  unfold fileW
  refine enter Try.func104 rfl rfl (by kernel_rfl) rfl fun w0 => ?_
  refine seq ?_
  refine reg ?_
  refine bx rfl rfl ?_
  intro b1
  refine en ?_
  refine seq ?_
  refine reg ?_
  refine q (asg rfl) ?_
  refine en ?_
  refine seq ?_
  refine reg ?_
  refine q (asg rfl) ?_
  refine en ?_
  refine seq ?_
  refine seq ?_
  refine reg ?_
  refine q (asg rfl) ?_
  refine en ?_
  refine blk ?_
  refine cSub (e' := [(0, (.pointer (some ⟨w, 0, none⟩))), (3, .pointer (some ⟨b1, 0, none⟩)), (4, .slice none 0 0), (5, .bool false), (6, .int .i64 (0 : Nat))]) (by repeat first | exact Sub.nil | refine Sub.cons rfl ?_) ?_
  refine loop (fun m' e l' => ∃ (i : Nat) (d : Bool) (vO : Value) (out : Fs) (bkO : Bl), l' = bkO ++ ((b1, .cells (List.toArray (fileW n s f)) 115 (0, 0)) :: (w, wO (.slice p D.fs.length cap) D.off D.fuse) :: (bkf ++ bl)) ∧ e = [(0, (.pointer (some ⟨w, 0, none⟩))), (3, .pointer (some ⟨b1, 0, none⟩)), (4, vO), (5, .bool d), (6, .int .i64 i)] ∧ m' = D.fs.length - i ∧ i ≤ D.fs.length ∧ OSl 115 5 RepF (Fz bl) vO out bkO ∧ out.length ≤ 2 * i ∧ out ++ pu n f d (D.fs.drop i) = pu n f false D.fs) D.fs.length ⟨0, false, _, [], [], rfl, rfl, rfl, Nat.zero_le _, OSl.nil, by simp, rfl⟩ ?_
  rintro m' _ _ ⟨i, d, vO, out, bkO, rfl, rfl, rfl, hi, hO, hol, hpu⟩
  obtain ⟨pO, capO, rfl⟩ := hO.val kF
  unfold fileW
  refine seq ?_
  refine seq ?_
  refine reg ?_
  refine q (mv rfl) ?_
  refine q (mv rfl) ?_
  refine q (nck rfl) ?_
  refine q (fa fo53_0 rfl) ?_
  refine q (ld na51 rfl (by first | exact mR (by assumption) | repeat (first | assumption | exact m0 | apply mS | apply mA)) (by first | rfl | assumption)) ?_
  refine q (lnL Try.underlying51 rfl) ?_
  refine q (bLss rfl rfl) ?_
  refine en ?_
  refine ifd rfl (fun h => ?_) (fun h => ?_)
  · have hin : i < D.fs.length := by omega
    obtain ⟨⟨nm, g⟩, hx⟩ : ∃ q, D.fs[i]? = some q := ⟨_, List.getElem?_eq_getElem hin⟩
    obtain ⟨b, cs, vs, rfl, _, rfl, ⟨sg, rfl, hsg⟩, hj, hT, _⟩ := hD.at kF hx
    have hj0 : cs[0 + (i : Int).toNat * 5 + 0]? = some (.string nm) := hj 0 (by decide)
    have hdr : D.fs.drop i = (nm, g) :: D.fs.drop (i + 1) := drop_cons hx
    rw [hdr, pu] at hpu
    refine skp (dSq ?_)
    refine seq ?_
    refine blk ?_
    refine seq ?_
    refine seq ?_
    refine drw (by kernel_rfl) [(.q, 0), (.q, 1), (.q, 2), (.q, 3), (.q, 4), (.q, 5), (.q, 6), (.q, 7), (.q, 8), (.q, 9), (.q, 10)] _ rfl (by kernel_rfl) (by kernel_rfl) trivial ?_
    refine xq rfl (mv rfl) ?_
    refine xq rfl (nck rfl) ?_
    refine xq rfl (fa fo53_0 rfl) ?_
    refine xq rfl (ld na51 rfl (by first | exact mR (by assumption) | repeat (first | assumption | exact m0 | apply mS | apply mA)) (by first | rfl | assumption)) ?_
    refine xq rfl (mv rfl) ?_
    refine xq rfl (ia Try.underlying51 sz115 rfl rfl (by omega) (by omega)) ?_
    refine xq rfl (fa fo115_0 rfl) ?_
    refine xq rfl (ld na9 rfl (by first | exact mR (by assumption) | repeat (first | assumption | exact m0 | apply mS | apply mA)) (by first | rfl | assumption)) ?_
    refine xq rfl (fa fo115_0 rfl) ?_
    refine xq rfl (ld na9 rfl (by first | exact mR (by assumption) | repeat (first | assumption | exact m0 | apply mS | apply mA)) (by first | rfl | assumption)) ?_
    refine xq rfl (sEql rfl rfl) ?_
    refine dSq ?_
    refine ifd rfl (fun heq => ?_) (fun heq => ?_)
    · rw [if_pos heq] at hpu
      refine exi (dSe (dBe (dSq ?_)))
      refine reg ?_
      refine q (mv rfl) ?_
      refine q (by first | exact bAddi rfl rfl (by omega) | exact bAdd rfl rfl) ?_
      refine q (asg rfl) ?_
      refine enD ?_
      refine dLp (m' := D.fs.length - (i + 1)) (e' := [(0, (.pointer (some ⟨w, 0, none⟩))), (3, .pointer (some ⟨b1, 0, none⟩)), (4, .slice pO out.length capO), (5, .bool d), (6, .int .i64 (i + 1 : Nat))]) (by omega) (by repeat first | exact Sub.nil | refine Sub.cons rfl ?_) ?_
      exact ⟨i + 1, d, _, out, bkO, rfl, rfl, rfl, by omega, hO, by omega, hpu⟩
    · rw [if_neg heq] at hpu
      refine skp (dSq ?_)
      refine seq ?_
      refine seq ?_
      refine drw (by kernel_rfl) [(.q, 0), (.q, 1), (.q, 2), (.q, 3), (.q, 4), (.q, 5), (.q, 6), (.q, 7), (.q, 8), (.q, 9), (.q, 10), (.q, 11), (.q, 12), (.q, 13), (.q, 14)] _ rfl (by kernel_rfl) (by kernel_rfl) trivial ?_
      refine xq rfl (mv rfl) ?_
      refine xq rfl ((by first | exact bNotd rfl | exact bNot rfl)) ?_
      refine xq rfl (mv rfl) ?_
      refine xdec (t := 29) rfl (fun hd => ?_) (fun hd => ?_)
      · obtain rfl : d = false := by simpa using hd
        refine xgT rfl rfl rfl (fa fo115_0 rfl) ?_
        refine xgT rfl rfl rfl (ld na9 rfl (by first | exact mR (by assumption) | repeat (first | assumption | exact m0 | apply mS | apply mA)) (by first | rfl | assumption)) ?_
        refine xgT rfl rfl rfl (mv rfl) ?_
        refine xgT rfl rfl rfl (nck rfl) ?_
        refine xgT rfl rfl rfl (fa fo53_0 rfl) ?_
        refine xgT rfl rfl rfl (ld na51 rfl (by first | exact mR (by assumption) | repeat (first | assumption | exact m0 | apply mS | apply mA)) (by first | rfl | assumption)) ?_
        refine xgT rfl rfl rfl (mv rfl) ?_
        refine xgT rfl rfl rfl (ia Try.underlying51 sz115 rfl rfl (by omega) (by omega)) ?_
        refine xgT rfl rfl rfl (fa fo115_0 rfl) ?_
        refine xgT rfl rfl rfl (ld na9 rfl (by first | exact mR (by assumption) | repeat (first | assumption | exact m0 | apply mS | apply mA)) (by first | rfl | assumption)) ?_
        refine xgT rfl rfl rfl (sLss rfl rfl) ?_
        refine xq rfl ((by first | exact pkT rfl rfl | exact pkF rfl rfl)) ?_
        refine dSq ?_
        refine ifb rfl (fun hlt => ?_) (fun hlt => ?_)
        · rw [if_pos ⟨rfl, hlt⟩] at hpu
          refine seq ?_
          refine reg ?_
          refine q (mv rfl) ?_
          refine q (ldA ag115 rfl (by first | exact mR (by assumption) | repeat (first | assumption | exact m0 | apply mS | apply mA)) (by first | assumption | repeat constructor)) ?_
          refine apO (l2 := (b1, .cells (List.toArray [.string n, s, .int .i64 f.synced, .bool f.cut, .string f.torn]) 115 (0, 0)) :: (w, wO (.slice (some ⟨b, 0, none⟩) D.fs.length cap) D.off D.fuse) :: ([(b, .cells cs.toArray 115 (0, 0))] ++ bl)) Try.underlying51 in115 rfl kF hO (a := (n, f)) ⟨s, rfl, hs⟩ (by omega) (by omega) (by decide) (fun a => by first | (simp only [cnt_append, cnt_cons, cnt_nil, wO]; done) | (simp only [cnt_append, cnt_cons, cnt_nil, wO]; omega)) (fun _ => rfl) rfl rfl ?_
          intro vO2 bkO2 u2 hO2
          obtain ⟨pO2, capO2, rfl⟩ := hO2.val kF
          refine q (asg rfl) ?_
          refine en ?_
          refine reg ?_
          refine q (asg rfl) ?_
          refine en ?_
          refine reg ?_
          refine q (mv rfl) ?_
          refine q (mv rfl) ?_
          refine q (nck rfl) ?_
          refine q (fa fo53_0 rfl) ?_
          refine q (ld na51 rfl (by first | exact mR (by assumption) | repeat (first | assumption | exact m0 | apply mS | apply mA)) (by first | rfl | assumption)) ?_
          refine q (mv rfl) ?_
          refine q (ia Try.underlying51 sz115 rfl rfl (by omega) (by omega)) ?_
          refine q (ldA ag115 rfl (by first | exact mR (by assumption) | repeat (first | assumption | exact m0 | apply mS | apply mA)) (by first | assumption | repeat constructor)) ?_
          refine apO (l2 := (b1, .cells (List.toArray [.string n, s, .int .i64 f.synced, .bool f.cut, .string f.torn]) 115 (0, 0)) :: (w, wO (.slice (some ⟨b, 0, none⟩) D.fs.length cap) D.off D.fuse) :: ([(b, .cells cs.toArray 115 (0, 0))] ++ bl)) Try.underlying51 in115 rfl kF hO2 (a := (nm, g)) ⟨sg, rfl, hsg⟩ (by first | omega | (simp only [List.length_append, List.length_cons, List.length_nil]; omega)) (by first | omega | (simp only [List.length_append, List.length_cons, List.length_nil]; omega)) (by decide) (fun a => by first | (simp only [cnt_append, cnt_cons, cnt_nil, wO]; done) | (simp only [cnt_append, cnt_cons, cnt_nil, wO]; omega)) (fun _ => rfl) rfl rfl ?_
          intro vO3 bkO3 u3 hO3
          refine q (asg rfl) ?_
          refine enD (dBn (dSq ?_))
          refine reg ?_
          refine q (mv rfl) ?_
          refine q (by first | exact bAddi rfl rfl (by omega) | exact bAdd rfl rfl) ?_
          refine q (asg rfl) ?_
          refine enD ?_
          refine dLp (m' := D.fs.length - (i + 1)) (e' := [(0, (.pointer (some ⟨w, 0, none⟩))), (3, .pointer (some ⟨b1, 0, none⟩)), (4, vO3), (5, .bool true), (6, .int .i64 (i + 1 : Nat))]) (by omega) (by repeat first | exact Sub.nil | refine Sub.cons rfl ?_) ?_
          exact ⟨i + 1, true, _, _, _, rfl, rfl, rfl, by omega, hO3, (by first | omega | (simp only [List.length_append, List.length_cons, List.length_nil]; omega)), by rw [← hpu]; simp⟩
        · rw [if_neg (fun h => by rw [h.2] at hlt; cases hlt)] at hpu
          refine skp (dSq ?_)
          refine reg ?_
          refine q (mv rfl) ?_
          refine q (mv rfl) ?_
          refine q (nck rfl) ?_
          refine q (fa fo53_0 rfl) ?_
          refine q (ld na51 rfl (by first | exact mR (by assumption) | repeat (first | assumption | exact m0 | apply mS | apply mA)) (by first | rfl | assumption)) ?_
          refine q (mv rfl) ?_
          refine q (ia Try.underlying51 sz115 rfl rfl (by omega) (by omega)) ?_
          refine q (ldA ag115 rfl (by first | exact mR (by assumption) | repeat (first | assumption | exact m0 | apply mS | apply mA)) (by first | assumption | repeat constructor)) ?_
          refine apO (l2 := (b1, .cells (List.toArray [.string n, s, .int .i64 f.synced, .bool f.cut, .string f.torn]) 115 (0, 0)) :: (w, wO (.slice (some ⟨b, 0, none⟩) D.fs.length cap) D.off D.fuse) :: ([(b, .cells cs.toArray 115 (0, 0))] ++ bl)) Try.underlying51 in115 rfl kF hO (a := (nm, g)) ⟨sg, rfl, hsg⟩ (by omega) (by omega) (by decide) (fun a => by first | (simp only [cnt_append, cnt_cons, cnt_nil, wO]; done) | (simp only [cnt_append, cnt_cons, cnt_nil, wO]; omega)) (fun _ => rfl) rfl rfl ?_
          intro vO3 bkO3 u3 hO3
          refine q (asg rfl) ?_
          refine enD (dBn (dSq ?_))
          refine reg ?_
          refine q (mv rfl) ?_
          refine q (by first | exact bAddi rfl rfl (by omega) | exact bAdd rfl rfl) ?_
          refine q (asg rfl) ?_
          refine enD ?_
          refine dLp (m' := D.fs.length - (i + 1)) (e' := [(0, (.pointer (some ⟨w, 0, none⟩))), (3, .pointer (some ⟨b1, 0, none⟩)), (4, vO3), (5, .bool false), (6, .int .i64 (i + 1 : Nat))]) (by omega) (by repeat first | exact Sub.nil | refine Sub.cons rfl ?_) ?_
          exact ⟨i + 1, false, _, _, _, rfl, rfl, rfl, by omega, hO3, (by first | omega | (simp only [List.length_append, List.length_cons, List.length_nil]; omega)), by rw [← hpu]; simp⟩
      · obtain rfl : d = true := by simpa using hd
        rw [if_neg (fun h => by cases h.1)] at hpu
        first | refine xgF rfl rfl rfl rfl ?_ | refine xgU rfl rfl rfl ?_
        first | refine xgF rfl rfl rfl rfl ?_ | refine xgU rfl rfl rfl ?_
        first | refine xgF rfl rfl rfl rfl ?_ | refine xgU rfl rfl rfl ?_
        first | refine xgF rfl rfl rfl rfl ?_ | refine xgU rfl rfl rfl ?_
        first | refine xgF rfl rfl rfl rfl ?_ | refine xgU rfl rfl rfl ?_
        first | refine xgF rfl rfl rfl rfl ?_ | refine xgU rfl rfl rfl ?_
        first | refine xgF rfl rfl rfl rfl ?_ | refine xgU rfl rfl rfl ?_
        first | refine xgF rfl rfl rfl rfl ?_ | refine xgU rfl rfl rfl ?_
        first | refine xgF rfl rfl rfl rfl ?_ | refine xgU rfl rfl rfl ?_
        first | refine xgF rfl rfl rfl rfl ?_ | refine xgU rfl rfl rfl ?_
        first | refine xgF rfl rfl rfl rfl ?_ | refine xgU rfl rfl rfl ?_
        refine xq rfl ((by first | exact pkT rfl rfl | exact pkF rfl rfl)) ?_
        refine dSq ?_
        refine ifF rfl ?_
        refine skp (dSq ?_)
        refine reg ?_
        refine q (mv rfl) ?_
        refine q (mv rfl) ?_
        refine q (nck rfl) ?_
        refine q (fa fo53_0 rfl) ?_
        refine q (ld na51 rfl (by first | exact mR (by assumption) | repeat (first | assumption | exact m0 | apply mS | apply mA)) (by first | rfl | assumption)) ?_
        refine q (mv rfl) ?_
        refine q (ia Try.underlying51 sz115 rfl rfl (by omega) (by omega)) ?_
        refine q (ldA ag115 rfl (by first | exact mR (by assumption) | repeat (first | assumption | exact m0 | apply mS | apply mA)) (by first | assumption | repeat constructor)) ?_
        refine apO (l2 := (b1, .cells (List.toArray [.string n, s, .int .i64 f.synced, .bool f.cut, .string f.torn]) 115 (0, 0)) :: (w, wO (.slice (some ⟨b, 0, none⟩) D.fs.length cap) D.off D.fuse) :: ([(b, .cells cs.toArray 115 (0, 0))] ++ bl)) Try.underlying51 in115 rfl kF hO (a := (nm, g)) ⟨sg, rfl, hsg⟩ (by omega) (by omega) (by decide) (fun a => by first | (simp only [cnt_append, cnt_cons, cnt_nil, wO]; done) | (simp only [cnt_append, cnt_cons, cnt_nil, wO]; omega)) (fun _ => rfl) rfl rfl ?_
        intro vO3 bkO3 u3 hO3
        refine q (asg rfl) ?_
        refine enD (dBn (dSq ?_))
        refine reg ?_
        refine q (mv rfl) ?_
        refine q (by first | exact bAddi rfl rfl (by omega) | exact bAdd rfl rfl) ?_
        refine q (asg rfl) ?_
        refine enD ?_
        refine dLp (m' := D.fs.length - (i + 1)) (e' := [(0, (.pointer (some ⟨w, 0, none⟩))), (3, .pointer (some ⟨b1, 0, none⟩)), (4, vO3), (5, .bool true), (6, .int .i64 (i + 1 : Nat))]) (by omega) (by repeat first | exact Sub.nil | refine Sub.cons rfl ?_) ?_
        exact ⟨i + 1, true, _, _, _, rfl, rfl, rfl, by omega, hO3, (by first | omega | (simp only [List.length_append, List.length_cons, List.length_nil]; omega)), by rw [← hpu]; simp⟩
  · rw [List.drop_of_length_le (by omega), pu] at hpu
    refine exi (dSe (dLe (dBe (dSq ?_))))
    refine seq ?_
    refine seq ?_
    refine reg ?_
    refine q (mv rfl) ?_
    refine q (by first | exact bNotd rfl | exact bNot rfl) ?_
    refine en ?_
    refine ifb rfl (fun hd => ?_) (fun hd => ?_)
    · have hd' : d = false := by simpa using hd
      subst hd'
      refine reg ?_
      refine q (mv rfl) ?_
      refine q (ldA ag115 rfl (by first | exact mR (by assumption) | repeat (first | assumption | exact m0 | apply mS | apply mA)) (by first | assumption | repeat constructor)) ?_
      refine apO (l2 := (b1, .cells (List.toArray [.string n, s, .int .i64 f.synced, .bool f.cut, .string f.torn]) 115 (0, 0)) :: (w, wO (.slice p D.fs.length cap) D.off D.fuse) :: (bkf ++ bl)) Try.underlying51 in115 rfl kF hO (a := (n, f)) ⟨s, rfl, hs⟩ (by omega) (by omega) (by decide) (fun a => by first | (simp only [cnt_append, cnt_cons, cnt_nil, wO]; done) | (simp only [cnt_append, cnt_cons, cnt_nil, wO]; omega)) (fun _ => rfl) rfl rfl ?_
      intro vO3 bkO3 u3 hO3
      obtain ⟨pO3, capO3, rfl⟩ := hO3.val kF
      refine q (asg rfl) ?_
      refine en ?_
      refine reg ?_
      refine q (mv rfl) ?_
      refine q (mv rfl) ?_
      refine q (nck rfl) ?_
      refine q (fa fo53_0 rfl) ?_
      refine st sz51 rfl rfl rfl (by repeat (first | exact .h | apply In.t | apply In.r)) (by first | assumption | repeat constructor) ?_
      refine enD ?_
      rw [← pu_put hsd, ← hpu]
      exact finQN _ rfl (fun a => by first | (simp only [cnt_append, cnt_cons, cnt_nil, wO]; done) | (simp only [cnt_append, cnt_cons, cnt_nil, wO]; omega)) ⟨rfl, _, bkO3, bl, rfl, hO3⟩
    · have hd' : d = true := by simpa using hd
      subst hd'
      refine skp (dSq ?_)
      refine reg ?_
      refine q (mv rfl) ?_
      refine q (mv rfl) ?_
      refine q (nck rfl) ?_
      refine q (fa fo53_0 rfl) ?_
      refine st sz51 rfl rfl rfl (by repeat (first | exact .h | apply In.t | apply In.r)) (by first | assumption | repeat constructor) ?_
      refine enD ?_
      rw [← pu_put hsd, ← hpu]
      exact finQN _ rfl (fun a => by first | (simp only [cnt_append, cnt_cons, cnt_nil, wO]; done) | (simp only [cnt_append, cnt_cons, cnt_nil, wO]; omega)) ⟨rfl, .slice pO out.length capO, bkO, bl, rfl, by simpa using hO⟩
end Go.Proofs.Ytoecfgldnlglnaa

