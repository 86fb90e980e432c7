import Derived.Test.YtoecfgldnlglnaaXDg
set_option linter.unusedVariables false
set_option linter.unusedSimpArgs false
set_option maxRecDepth 20000
namespace Go.Wk.Dsk
open Go Go.Wk
structure AM where
  k : Int
  a : ByteArray
  b : ByteArray
  n : Int
  keep : List Int
  torn : List Int
def does (D : DM) (x : AM) : ByteArray × Int × DM :=
  if x.k = 0 then (⟨#[]⟩, append D x.a x.b) else if x.k = 1 then (⟨#[]⟩, sync D x.a) else if x.k = 2 then (⟨#[]⟩, rename D x.a x.b) else if x.k = 3 then (⟨#[]⟩, Dsk.delete D x.a) else
  if x.k = 4 then ((Dsk.read D x.a).1, (Dsk.read D x.a).2, D) else if x.k = 5 then (⟨#[]⟩, 0, fuse D x.n) else if x.k = 6 then (⟨#[]⟩, 0, crash D x.keep x.torn) else if x.k = 7 then (⟨#[]⟩, 0, Dsk.start D) else (⟨#[]⟩, 0, D)
def plays (D : DM) (l : List AM) : DM := l.foldl (fun D x => (does D x).2.2) D
/-- An act that statements go through. -/
structure AOk (x : AM) : Prop where
  a : x.a.size ≤ 20000
  b : x.b.size ≤ 20000
  n : -9223372036854775808 ≤ x.n ∧ x.n ≤ 9223372036854775807
  keep : x.keep.length ≤ 60
  torn : x.torn.length ≤ 60
  tornI : ∀ y ∈ x.torn, -9223372036854775808 ≤ y ∧ y ≤ 9223372036854775807
theorem DOk.does {K D x} (h : DOk K D) (hx : AOk x) : DOk (K + 1) (does D x).2.2 := by
  have h1 := h.mono (Nat.le_succ K)
  unfold Dsk.does
  split
  · exact h.append hx.b
  · split
    · exact h1.sync
    · split
      · exact h.rename
      · split
        · exact h1.delete
        · split
          · exact h1
          · split
            · exact h1.fuse' hx.n.2
            · split
              · exact h1.crash
              · split
                · exact h1.start
                · exact h1
theorem DOk.plays {l : List AM} (hl : ∀ x ∈ l, AOk x) : ∀ {K D}, DOk K D → DOk (K + l.length) (plays D l) := by
  induction l with
  | nil => intro K D h; exact h
  | cons x l ih =>
    intro K D h
    have := ih (fun y hy => hl y (List.mem_cons_of_mem _ hy)) (h.does (hl x (List.mem_cons_self ..)))
    have e : K + 1 + l.length = K + (x :: l).length := by simp; omega
    rw [e] at this
    exact this
end Go.Wk.Dsk
namespace Go.Proofs.Ytoecfgldnlglnaa
open Go Go.Wk Go.Wk.Dsk

theorem dStartD {R l d D} (hD : IsD d D l) : Tri Try.prog 17 [.pointer (some ⟨d, 0, none⟩)] R l fun v l' => v = .tuple #[] ∧ IsD d (Dsk.start D) l' := by
  obtain ⟨m, kv, ck, bl, fs, rfl, hk, hF, hp⟩ := hD
  exact (dStart .h).mono fun v l' ⟨h, e⟩ => ⟨h, m, kv, ck, bl, fs, e, hk, hF, hp⟩
theorem dFuseD {R l d D} {n : Int} (hD : IsD d D l) : Tri Try.prog 18 [.pointer (some ⟨d, 0, none⟩), .int .i64 n] R l fun v l' => v = .tuple #[] ∧ IsD d (fuse D n) l' := by
  obtain ⟨m, kv, ck, bl, fs, rfl, hk, hF, hp⟩ := hD
  exact (dFuse .h).mono fun v l' ⟨h, e⟩ => ⟨h, m, kv, ck, bl, fs, e, hk, hF, hp⟩
/-- The cells of an act. -/
def ActV (R : Rd) (x : AM) (cs : List Value) : Prop :=
  ∃ sk st, cs = [.int .u8 x.k, .string x.a, .string x.b, .int .i64 x.n, sk, st] ∧ SlV 1 R sk (x.keep.map (.int .i64)) ∧ SlV 1 R st (x.torn.map (.int .i64))
theorem dDoes {R l d D K x cs} (hD : IsD d D l) (hO : DOk K D) (hK : K ≤ 900) (hx : AOk x) (hv : ActV R x cs) :
    Tri Try.prog 25 [.pointer (some ⟨d, 0, none⟩), .agg cs.toArray] R l fun v l' => v = .tuple (List.toArray [.string (does D x).1, .int .i64 (does D x).2.1]) ∧ IsD d (does D x).2.2 l' := by
  obtain ⟨sk, st, rfl, hk, ht⟩ := hv
  obtain ⟨pk, nk, capk, rfl, hlk⟩ := hk.len
  obtain ⟨pt, nt, capt, rfl, hlt⟩ := ht.len
  have hxa := hx.a
  have hxb := hx.b
  have hxn := hx.n
  have hxk := hx.keep
  have hxt := hx.torn
  have hfu := hO.fuse
  have hfr := (hO.fileOf x.a).len
  have hfb := (hO.fileOf x.a).bytes
  have hfl : K * 20000 ≤ 900 * 20000 := Nat.mul_le_mul_right _ hK
  refine enter Try.func25 rfl rfl (by kernel_rfl) rfl fun w0 => ?_
  refine seq ?_
  refine reg ?_
  refine bx rfl rfl ?_
  intro b1
  refine q (asg rfl) ?_
  refine q (asg rfl) ?_
  refine en ?_
  refine seq ?_
  refine seq ?_
  refine reg ?_
  refine q (fa fo44_0 rfl) ?_
  refine q (ld na5 rfl (by first | exact mR (by assumption) | repeat (first | assumption | exact m0 | apply mS | apply mA)) (by first | rfl | assumption)) ?_
  refine en ?_
  refine blk ?_
  refine seq ?_
  refine reg ?_
  refine q (bEql rfl rfl) ?_
  refine q (asg rfl) ?_
  refine en ?_
  refine ifd rfl (fun h0 => ?_) (fun h0 => ?_)
  · refine seq ?_
    refine reg ?_
    refine q (mv rfl) ?_
    refine q (fa fo44_1 rfl) ?_
    refine q (ld na9 rfl (by first | exact mR (by assumption) | repeat (first | assumption | exact m0 | apply mS | apply mA)) (by first | rfl | assumption)) ?_
    refine q (fa fo44_2 rfl) ?_
    refine q (ld na9 rfl (by first | exact mR (by assumption) | repeat (first | assumption | exact m0 | apply mS | apply mA)) (by first | rfl | assumption)) ?_
    refine clQ fb24 rfl l [(b1, .cells (List.toArray [.int .u8 x.k, .string x.a, .string x.b, .int .i64 x.n, .slice pk nk capk, .slice pt nt capt]) 44 (0, 0))] (fun a => by simp only [cnt_append, cnt_cons, cnt_nil]; omega) (dAppend hD hO.sd (by omega) hfu.2 (by omega)) ?_
    rintro v l' ⟨rfl, hS⟩
    refine q (asg rfl) ?_
    refine q (asg rfl) ?_
    refine en ?_
    refine ret (dBr (dSr ?_))
    have hA : does D x = (⟨#[]⟩, append D x.a x.b) := by simp [does, h0]
    rw [hA]
    exact finQT l' rfl rfl rfl (fun a => by simp only [cnt_append]; omega) ⟨rfl, hS⟩
  · refine seq ?_
    refine reg ?_
    refine q (bEql rfl rfl) ?_
    refine q (asg rfl) ?_
    refine en ?_
    refine ifd rfl (fun h1 => ?_) (fun h1 => ?_)
    · refine seq ?_
      refine reg ?_
      refine q (mv rfl) ?_
      refine q (fa fo44_1 rfl) ?_
      refine q (ld na9 rfl (by first | exact mR (by assumption) | repeat (first | assumption | exact m0 | apply mS | apply mA)) (by first | rfl | assumption)) ?_
      refine clQ fb28 rfl l [(b1, .cells (List.toArray [.int .u8 x.k, .string x.a, .string x.b, .int .i64 x.n, .slice pk nk capk, .slice pt nt capt]) 44 (0, 0))] (fun a => by simp only [cnt_append, cnt_cons, cnt_nil]; omega) (dSync hD hO.sd hfu.2) ?_
      rintro v l' ⟨rfl, hS⟩
      refine q (asg rfl) ?_
      refine q (asg rfl) ?_
      refine en ?_
      refine ret (dBr (dSr ?_))
      have hA : does D x = (⟨#[]⟩, sync D x.a) := by simp [does, h0, h1]
      rw [hA]
      exact finQT l' rfl rfl rfl (fun a => by simp only [cnt_append]; omega) ⟨rfl, hS⟩
    · refine seq ?_
      refine reg ?_
      refine q (bEql rfl rfl) ?_
      refine q (asg rfl) ?_
      refine en ?_
      refine ifd rfl (fun h2 => ?_) (fun h2 => ?_)
      · refine seq ?_
        refine reg ?_
        refine q (mv rfl) ?_
        refine q (fa fo44_1 rfl) ?_
        refine q (ld na9 rfl (by first | exact mR (by assumption) | repeat (first | assumption | exact m0 | apply mS | apply mA)) (by first | rfl | assumption)) ?_
        refine q (fa fo44_2 rfl) ?_
        refine q (ld na9 rfl (by first | exact mR (by assumption) | repeat (first | assumption | exact m0 | apply mS | apply mA)) (by first | rfl | assumption)) ?_
        refine clQ fb58 rfl l [(b1, .cells (List.toArray [.int .u8 x.k, .string x.a, .string x.b, .int .i64 x.n, .slice pk nk capk, .slice pt nt capt]) 44 (0, 0))] (fun a => by simp only [cnt_append, cnt_cons, cnt_nil]; omega) (dRename hD hO.sd hfu.2 (by omega)) ?_
        rintro v l' ⟨rfl, hS⟩
        refine q (asg rfl) ?_
        refine q (asg rfl) ?_
        refine en ?_
        refine ret (dBr (dSr ?_))
        have hA : does D x = (⟨#[]⟩, rename D x.a x.b) := by simp [does, h0, h1, h2]
        rw [hA]
        exact finQT l' rfl rfl rfl (fun a => by simp only [cnt_append]; omega) ⟨rfl, hS⟩
      · refine seq ?_
        refine reg ?_
        refine q (bEql rfl rfl) ?_
        refine q (asg rfl) ?_
        refine en ?_
        refine ifd rfl (fun h3 => ?_) (fun h3 => ?_)
        · refine seq ?_
          refine reg ?_
          refine q (mv rfl) ?_
          refine q (fa fo44_1 rfl) ?_
          refine q (ld na9 rfl (by first | exact mR (by assumption) | repeat (first | assumption | exact m0 | apply mS | apply mA)) (by first | rfl | assumption)) ?_
          refine clQ fb59 rfl l [(b1, .cells (List.toArray [.int .u8 x.k, .string x.a, .string x.b, .int .i64 x.n, .slice pk nk capk, .slice pt nt capt]) 44 (0, 0))] (fun a => by simp only [cnt_append, cnt_cons, cnt_nil]; omega) (dDelete hD hO.sd hfu.2) ?_
          rintro v l' ⟨rfl, hS⟩
          refine q (asg rfl) ?_
          refine q (asg rfl) ?_
          refine en ?_
          refine ret (dBr (dSr ?_))
          have hA : does D x = (⟨#[]⟩, Dsk.delete D x.a) := by simp [does, h0, h1, h2, h3]
          rw [hA]
          exact finQT l' rfl rfl rfl (fun a => by simp only [cnt_append]; omega) ⟨rfl, hS⟩
        · refine seq ?_
          refine reg ?_
          refine q (bEql rfl rfl) ?_
          refine q (asg rfl) ?_
          refine en ?_
          refine ifd rfl (fun h4 => ?_) (fun h4 => ?_)
          · refine seq ?_
            refine reg ?_
            refine q (mv rfl) ?_
            refine q (fa fo44_1 rfl) ?_
            refine q (ld na9 rfl (by first | exact mR (by assumption) | repeat (first | assumption | exact m0 | apply mS | apply mA)) (by first | rfl | assumption)) ?_
            refine clQ fb22 rfl l [(b1, .cells (List.toArray [.int .u8 x.k, .string x.a, .string x.b, .int .i64 x.n, .slice pk nk capk, .slice pt nt capt]) 44 (0, 0))] (fun a => by simp only [cnt_append, cnt_cons, cnt_nil]; omega) (dRead hD hO.sd (by omega) (by omega)) ?_
            rintro v l' ⟨rfl, hl'⟩
            refine q (ext rfl rfl) ?_
            refine q (ext rfl rfl) ?_
            refine q (asg rfl) ?_
            refine q (asg rfl) ?_
            refine en ?_
            refine ret (dBr (dSr ?_))
            have hA : does D x = ((Dsk.read D x.a).1, (Dsk.read D x.a).2, D) := by simp [does, h0, h1, h2, h3, h4]
            rw [hA]
            exact finQT l' rfl rfl rfl (fun a => by simp only [cnt_append]; omega) ⟨rfl, hl' ▸ hD⟩
          · refine seq ?_
            refine reg ?_
            refine q (bEql rfl rfl) ?_
            refine q (asg rfl) ?_
            refine en ?_
            refine ifd rfl (fun h5 => ?_) (fun h5 => ?_)
            · refine reg ?_
              refine q (mv rfl) ?_
              refine q (fa fo44_3 rfl) ?_
              refine q (ld na3 rfl (by first | exact mR (by assumption) | repeat (first | assumption | exact m0 | apply mS | apply mA)) (by first | rfl | assumption)) ?_
              refine clQ fb18 rfl l [(b1, .cells (List.toArray [.int .u8 x.k, .string x.a, .string x.b, .int .i64 x.n, .slice pk nk capk, .slice pt nt capt]) 44 (0, 0))] (fun a => by simp only [cnt_append, cnt_cons, cnt_nil]; omega) (dFuseD (n := x.n) hD) ?_
              rintro v l' ⟨rfl, hS⟩
              refine enD (dBn (dSq ?_))
              refine seq ?_
              refine reg ?_
              refine q (asg rfl) ?_
              refine q (asg rfl) ?_
              refine en ?_
              refine ret ?_
              have hA : does D x = (⟨#[]⟩, 0, fuse D x.n) := by simp [does, h0, h1, h2, h3, h4, h5]
              rw [hA]
              exact finQT l' rfl rfl rfl (fun a => by simp only [cnt_append]; omega) ⟨rfl, hS⟩
            · refine seq ?_
              refine reg ?_
              refine q (bEql rfl rfl) ?_
              refine q (asg rfl) ?_
              refine en ?_
              refine ifd rfl (fun h6 => ?_) (fun h6 => ?_)
              · refine reg ?_
                refine q (mv rfl) ?_
                refine q (fa fo44_4 rfl) ?_
                refine q (ldA ag25 rfl (by first | exact mR (by assumption) | repeat (first | assumption | exact m0 | apply mS | apply mA)) (by first | assumption | repeat constructor)) ?_
                refine clQ fb21 rfl l [(b1, .cells (List.toArray [.int .u8 x.k, .string x.a, .string x.b, .int .i64 x.n, .slice pk nk capk, .slice pt nt capt]) 44 (0, 0))] (fun a => by simp only [cnt_append, cnt_cons, cnt_nil]; omega) (dCrash (keep := x.keep) (torn := x.torn) hD hO (by omega) (hk.mono fun b o h => .inl h) (ht.mono fun b o h => .inl h) (by omega) (by omega) hx.tornI) ?_
                rintro v l' ⟨rfl, hS⟩
                refine enD (dBn (dSq ?_))
                refine seq ?_
                refine reg ?_
                refine q (asg rfl) ?_
                refine q (asg rfl) ?_
                refine en ?_
                refine ret ?_
                have hA : does D x = (⟨#[]⟩, 0, crash D x.keep x.torn) := by simp [does, h0, h1, h2, h3, h4, h5, h6]
                rw [hA]
                exact finQT l' rfl rfl rfl (fun a => by simp only [cnt_append]; omega) ⟨rfl, hS⟩
              · refine seq ?_
                refine reg ?_
                refine q (bEql rfl rfl) ?_
                refine q (asg rfl) ?_
                refine en ?_
                refine ifd rfl (fun h7 => ?_) (fun h7 => ?_)
                · refine reg ?_
                  refine q (mv rfl) ?_
                  refine clQ fb17 rfl l [(b1, .cells (List.toArray [.int .u8 x.k, .string x.a, .string x.b, .int .i64 x.n, .slice pk nk capk, .slice pt nt capt]) 44 (0, 0))] (fun a => by simp only [cnt_append, cnt_cons, cnt_nil]; omega) (dStartD hD) ?_
                  rintro v l' ⟨rfl, hS⟩
                  refine enD (dBn (dSq ?_))
                  refine seq ?_
                  refine reg ?_
                  refine q (asg rfl) ?_
                  refine q (asg rfl) ?_
                  refine en ?_
                  refine ret ?_
                  have hA : does D x = (⟨#[]⟩, 0, Dsk.start D) := by simp [does, h0, h1, h2, h3, h4, h5, h6, h7]
                  rw [hA]
                  exact finQT l' rfl rfl rfl (fun a => by simp only [cnt_append]; omega) ⟨rfl, hS⟩
                · refine skp (dBn (dSq ?_))
                  refine seq ?_
                  refine reg ?_
                  refine q (asg rfl) ?_
                  refine q (asg rfl) ?_
                  refine en ?_
                  refine ret ?_
                  have hA : does D x = (⟨#[]⟩, 0, D) := by simp [does, h0, h1, h2, h3, h4, h5, h6, h7]
                  rw [hA]
                  exact finQT l rfl rfl rfl (fun a => by simp only [cnt_append, cnt_cons, cnt_nil]; omega) ⟨rfl, hD⟩
end Go.Proofs.Ytoecfgldnlglnaa

