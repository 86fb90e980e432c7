import Derived.Test.YtoecfgldnlglnaaXCd
import Derived.Test.YtoecfgldnlglnaaXNv
set_option linter.unusedVariables false
set_option linter.unusedSimpArgs false
set_option maxRecDepth 20000
namespace Go.Proofs.Ytoecfgldnlglnaa
open Go Go.Wk Go.Wk.Num
/-! # The catalogue: plain -/
structure Quo where
  keys : Int
  bytes : Int
  rate : Int
  burst : Int
deriving DecidableEq
def Q0 : Quo := ⟨0, 0, 0, 0⟩
def Quo.right (q : Quo) : Prop := 1 ≤ q.keys ∧ q.keys ≤ 16 ∧ 1 ≤ q.bytes ∧ q.bytes ≤ 512 ∧ 0 ≤ q.rate ∧ q.rate ≤ 100 ∧ 1 ≤ q.burst ∧ q.burst ≤ 100
instance (q : Quo) : Decidable q.right := by unfold Quo.right; infer_instance
def quoC (q : Quo) : List Value := [.int .i64 q.keys, .int .i64 q.bytes, .int .i64 q.rate, .int .i64 q.burst]
abbrev quoV (q : Quo) : Value := .agg (quoC q).toArray
abbrev u8V (s : UInt8) : Value := .int .u8 (s.toNat : Nat)
structure Prn where
  tok : Tok
  slot : UInt8
  role : UInt8
deriving DecidableEq
def prnC (p : UInt8 × UInt8) : List Value := [u8V p.1, u8V p.2]
structure CM where
  qs : List Quo
  ps : List Prn
def opTok : Tok := ⟨⟨#[111, 112, 101, 114, 97, 116, 111, 114]⟩, rfl⟩
def look : List Prn → Tok → Option (UInt8 × UInt8)
  | [], _ => none
  | p :: ps, t => if p.tok = t then some (p.slot, p.role) else look ps t
def CM.q (M : CM) (s : Nat) : Quo := M.qs.getD s Q0
def CM.there (M : CM) (s : UInt8) : Prop := 0 < (M.q s.toNat).keys
instance (M : CM) (s : UInt8) : Decidable (M.there s) := by unfold CM.there; infer_instance
def CM.many (M : CM) (s : UInt8) : Nat := M.ps.countP (·.slot = s)
def sumK (qs : List Quo) : Int := (qs.map (·.keys)).sum
def sumB (qs : List Quo) : Int := (qs.map (·.bytes)).sum
def sumR (qs : List Quo) : Int := (qs.map (·.rate)).sum
def CM.fits (M : CM) (q : Quo) : Prop := sumK M.qs + q.keys ≤ 48 ∧ sumB M.qs + q.bytes ≤ 1536 ∧ sumR M.qs + q.rate ≤ 200
instance (M : CM) (q : Quo) : Decidable (M.fits q) := by unfold CM.fits; infer_instance
/-- The codes, and what is then. -/
def CM.create (M : CM) (s : UInt8) (q : Quo) : UInt8 × CM :=
  if 4 ≤ s.toNat ∨ ¬ q.right then (11, M) else if M.there s then (10, M) else if ¬ M.fits q then (9, M) else (0, { M with qs := M.qs.set s.toNat q })
def CM.remove (M : CM) (s : UInt8) : UInt8 × CM :=
  if 4 ≤ s.toNat then (11, M) else if ¬ M.there s then (1, M) else (0, ⟨M.qs.set s.toNat Q0, M.ps.filter (·.slot ≠ s)⟩)
def ins (x : Prn) : List Prn → List Prn
  | [] => [x]
  | p :: ps => if tlt x.tok p.tok then x :: p :: ps else p :: ins x ps
def CM.add (M : CM) (s : UInt8) (t : Tok) (r : UInt8) : UInt8 × CM :=
  if 4 ≤ s.toNat ∨ r.toNat < 1 ∨ 3 < r.toNat ∨ t = opTok then (11, M) else if ¬ M.there s then (1, M) else if (look M.ps t).isSome then (10, M) else if 4 ≤ M.many s then (9, M) else (0, { M with ps := ins ⟨t, s, r⟩ M.ps })
def CM.drop (M : CM) (t : Tok) : UInt8 × CM :=
  if (look M.ps t).isSome then (0, { M with ps := M.ps.filter (·.tok ≠ t) }) else (1, M)
def CM.who (M : CM) (t : Tok) : UInt8 × UInt8 × Bool := match look M.ps t with
  | some p => (p.1, p.2, true)
  | none => (0, 0, false)
def CM.quota (M : CM) (s : UInt8) : Quo × Bool := if s.toNat < 4 ∧ M.there s then (M.q s.toNat, true) else (Q0, false)
def numsQ (q : Quo) : List Nat := [q.keys.toNat, q.bytes.toNat, q.rate.toNat, q.burst.toNat]
def wQ (q : Quo) : List UInt8 := if 0 < q.keys then 1 :: numV (numsQ q) else [0]
def tokB (t : Tok) : List UInt8 := t.1.data.toList
def wP (p : Prn) : List UInt8 := tokB p.tok ++ [p.slot, p.role]
def CM.write (M : CM) : List UInt8 := M.qs.flatMap wQ ++ (oneL M.ps.length ++ M.ps.flatMap wP)
/-- What holds of each. -/
structure CI (M : CM) : Prop where
  len : M.qs.length = 4
  q : ∀ q ∈ M.qs, q = Q0 ∨ q.right
  sum : sumK M.qs ≤ 48 ∧ sumB M.qs ≤ 1536 ∧ sumR M.qs ≤ 200
  sd : M.ps.Pairwise fun a b => tlt a.tok b.tok = true
  p : ∀ p ∈ M.ps, p.slot.toNat < 4 ∧ M.there p.slot ∧ 1 ≤ p.role.toNat ∧ p.role.toNat ≤ 3 ∧ p.tok ≠ opTok
  many : ∀ s, M.many s ≤ 4
def CM.none : CM := ⟨[Q0, Q0, Q0, Q0], []⟩
theorem CI.none : CI CM.none := ⟨rfl, by simp [CM.none], by simp [CM.none, sumK, sumB, sumR, Q0], .nil, by simp [CM.none], by simp [CM.none, CM.many]⟩
theorem CI.of_len {M : CM} (h : CI M) : ∃ a b c d, M.qs = [a, b, c, d] := by
  have := h.len
  match hq : M.qs, this with
  | [a, b, c, d], _ => exact ⟨a, b, c, d, rfl⟩
theorem u8lt4 {s : UInt8} (h : s.toNat < 4) : s = 0 ∨ s = 1 ∨ s = 2 ∨ s = 3 := by
  have h0 : (0 : UInt8).toNat = 0 := rfl
  have h1 : (1 : UInt8).toNat = 1 := rfl
  have h2 : (2 : UInt8).toNat = 2 := rfl
  have h3 : (3 : UInt8).toNat = 3 := rfl
  rcases (by omega : s.toNat = 0 ∨ s.toNat = 1 ∨ s.toNat = 2 ∨ s.toNat = 3) with h | h | h | h
  · exact .inl (UInt8.toNat_inj.1 h)
  · exact .inr (.inl (UInt8.toNat_inj.1 h))
  · exact .inr (.inr (.inl (UInt8.toNat_inj.1 h)))
  · exact .inr (.inr (.inr (UInt8.toNat_inj.1 h)))
/-! ## The principals -/
theorem look_none {ps : List Prn} {t : Tok} (h : ∀ p ∈ ps, p.tok ≠ t) : look ps t = none := by
  induction ps with
  | nil => rfl
  | cons p ps ih => rw [look, if_neg (h p (List.mem_cons_self ..)), ih fun q hq => h q (List.mem_cons_of_mem _ hq)]
theorem look_mem {ps : List Prn} {t : Tok} {x} (h : look ps t = some x) : ⟨t, x.1, x.2⟩ ∈ ps := by
  induction ps with
  | nil => cases h
  | cons p ps ih =>
    rw [look] at h
    split at h
    · rename_i e; injection h with h; subst h; subst e; exact List.mem_cons_self ..
    · exact List.mem_cons_of_mem _ (ih h)
theorem look_some {ps : List Prn} (hs : ps.Pairwise fun a b => tlt a.tok b.tok = true) {p : Prn} (hp : p ∈ ps) : look ps p.tok = some (p.slot, p.role) := by
  induction ps with
  | nil => cases hp
  | cons q ps ih =>
    rw [List.pairwise_cons] at hs
    rcases List.mem_cons.1 hp with rfl | hp
    · rw [look, if_pos rfl]
    · rw [look, if_neg (fun e => by have := sLt_ne (hs.1 p hp); exact this (by rw [e])), ih hs.2 hp]
theorem look_isSome {ps : List Prn} {t : Tok} : (look ps t).isSome ↔ t ∈ ps.map (·.tok) := by
  induction ps with
  | nil => simp [look]
  | cons p ps ih =>
    rw [look]
    by_cases e : p.tok = t
    · simp [e]
    · rw [if_neg e, ih]; simp [Ne.symm e]
theorem tlt_tri {x y : Tok} (h : tlt x y = false) (hn : x ≠ y) : tlt y x = true := sLt_tri h (fun e => hn (Subtype.ext e))
theorem mem_ins {x y : Prn} {ps : List Prn} : y ∈ ins x ps ↔ y = x ∨ y ∈ ps := by
  induction ps with
  | nil => simp [ins]
  | cons p ps ih =>
    rw [ins]
    split
    · simp
    · simp only [List.mem_cons, ih]
      constructor
      · rintro (h | h | h) <;> simp [h]
      · rintro (h | h | h) <;> simp [h]
theorem ins_sd {x : Prn} {ps : List Prn} (hs : ps.Pairwise fun a b => tlt a.tok b.tok = true) (hn : look ps x.tok = none) : (ins x ps).Pairwise fun a b => tlt a.tok b.tok = true := by
  induction ps with
  | nil => simp [ins]
  | cons p ps ih =>
    rw [look] at hn
    split at hn
    · cases hn
    rename_i hne
    rw [ins]
    split
    · rename_i h
      refine List.pairwise_cons.2 ⟨fun q hq => ?_, hs⟩
      rcases List.mem_cons.1 hq with rfl | hq
      · exact h
      · exact sLt_trans h ((List.pairwise_cons.1 hs).1 q hq)
    · rename_i h
      refine List.pairwise_cons.2 ⟨fun q hq => ?_, ih (List.pairwise_cons.1 hs).2 hn⟩
      rcases mem_ins.1 hq with rfl | hq
      · exact tlt_tri (by simpa using h) (Ne.symm hne)
      · exact (List.pairwise_cons.1 hs).1 q hq
theorem look_ins {x : Prn} {ps : List Prn} (hn : look ps x.tok = none) (t : Tok) : look (ins x ps) t = if x.tok = t then some (x.slot, x.role) else look ps t := by
  induction ps with
  | nil => simp [ins, look]
  | cons p ps ih =>
    rw [look] at hn
    split at hn
    · cases hn
    rename_i hne
    rw [ins]
    split
    · rw [look]
    · rw [look, ih hn]
      by_cases h1 : p.tok = t
      · rw [if_pos h1, look, if_pos h1, if_neg (fun e => hne (h1.trans e.symm))]
      · rw [if_neg h1, look, if_neg h1]
theorem countP_ins {x : Prn} {ps : List Prn} (f : Prn → Bool) : (ins x ps).countP f = ps.countP f + if f x then 1 else 0 := by
  induction ps with
  | nil => simp [ins, List.countP_cons]
  | cons p ps ih =>
    rw [ins]
    split
    · rw [List.countP_cons]
    · rw [List.countP_cons, ih, List.countP_cons]; omega
theorem look_filter_tok {ps : List Prn} {t u : Tok} : look (ps.filter (·.tok ≠ t)) u = if u = t then none else look ps u := by
  induction ps with
  | nil => simp [look]
  | cons p ps ih =>
    by_cases h : p.tok = t
    · rw [List.filter_cons_of_neg (by simpa using h), ih, look]
      by_cases hu : u = t
      · rw [if_pos hu, if_pos hu]
      · rw [if_neg hu, if_neg hu, if_neg (fun e => hu (e.symm.trans h))]
    · rw [List.filter_cons_of_pos (by simpa using h), look, ih, look]
      by_cases hu : u = t
      · subst hu; rw [if_neg h]; simp
      · rw [if_neg hu]; simp [hu]
theorem look_filter_slot {ps : List Prn} (hs : ps.Pairwise fun a b => tlt a.tok b.tok = true) {s : UInt8} {u : Tok} : look (ps.filter (·.slot ≠ s)) u = (look ps u).bind fun x => if x.1 = s then none else some x := by
  induction ps with
  | nil => rfl
  | cons p ps ih =>
    rw [List.pairwise_cons] at hs
    by_cases h : p.slot = s
    · rw [List.filter_cons_of_neg (by simpa using h), ih hs.2, look]
      by_cases hu : p.tok = u
      · subst hu
        rw [if_pos rfl, look_none (fun q hq e => by have := sLt_ne (hs.1 q hq); exact this (by rw [e]))]; simp [h]
      · rw [if_neg hu]
    · rw [List.filter_cons_of_pos (by simpa using h), look, ih hs.2, look]
      by_cases hu : p.tok = u
      · simp [hu, h]
      · simp [hu]
end Go.Proofs.Ytoecfgldnlglnaa
