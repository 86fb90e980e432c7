import Derived.Test.YtoecfgldnlglnaaXRa
set_option linter.unusedVariables false
set_option linter.unusedSimpArgs false
set_option maxRecDepth 20000
namespace Go.Proofs.Ytoecfgldnlglnaa
open Go Go.Wk Go.Wk.Dsk

theorem rDropX {R w} {D : DM} {n v bkf bl} (hD : OSl 115 5 RepF (Fz bl) v D.fs bkf) (hsd : Sd D.fs) (hK : D.fs.length ≤ 1000000) : Tri Try.prog 105 [.pointer (some ⟨w, 0, none⟩), .string n] R ((w, wO v D.off D.fuse) :: (bkf ++ bl)) fun u l' => u = .tuple #[] ∧ ∃ v2 bk2, l' = (w, wO v2 D.off D.fuse) :: (bk2 ++ bl) ∧ OSl 115 5 RepF (Fz bl) v2 (Dsk.drop D.fs n) bk2 := by
  obtain ⟨p, cap, rfl⟩ := hD.val kF
  rw [drop_eq hsd.nodup]
  refine enter Try.func105 rfl rfl (by kernel_rfl) rfl fun w0 => ?_
  refine seq ?_
  refine reg ?_
  refine q (asg rfl) ?_
  refine en ?_
  refine seq ?_
  refine seq ?_
  refine reg ?_
  refine q (asg rfl) ?_
  refine en ?_
  refine blk ?_
  refine cSub (e' := [(0, (.pointer (some ⟨w, 0, none⟩))), (1, .string n), (4, .slice none 0 0), (5, .int .i64 (0 : Nat))]) (by repeat first | exact Sub.nil | refine Sub.cons rfl ?_) ?_
  refine loop (fun m' e l' => ∃ (i : Nat) (vO : Value) (out : Fs) (bkO : Bl), l' = bkO ++ ((w, wO (.slice p D.fs.length cap) D.off D.fuse) :: (bkf ++ bl)) ∧ e = [(0, (.pointer (some ⟨w, 0, none⟩))), (1, .string n), (4, vO), (5, .int .i64 i)] ∧ m' = D.fs.length - i ∧ i ≤ D.fs.length ∧ OSl 115 5 RepF (Fz bl) vO out bkO ∧ out.length ≤ i ∧ out ++ (D.fs.drop i).filter (fun p => decide (p.1 ≠ n)) = D.fs.filter (fun p => decide (p.1 ≠ n))) D.fs.length ⟨0, _, [], [], rfl, rfl, rfl, Nat.zero_le _, OSl.nil, by simp, rfl⟩ ?_
  rintro m' _ _ ⟨i, vO, out, bkO, rfl, rfl, rfl, hi, hO, hol, hpu⟩
  obtain ⟨pO, capO, rfl⟩ := hO.val kF
  refine seq ?_
  refine seq ?_
  refine reg ?_
  refine q (mv rfl) ?_
  refine q (mv rfl) ?_
  refine q (nck rfl) ?_
  refine q (fa fo53_0 rfl) ?_
  refine q (ld na51 rfl (by first | exact mR (by assumption) | repeat (first | assumption | exact m0 | apply mS | apply mA)) (by first | rfl | assumption)) ?_
  refine q (lnL Try.underlying51 rfl) ?_
  refine q (bLss rfl rfl) ?_
  refine en ?_
  refine ifd rfl (fun h => ?_) (fun h => ?_)
  · have hin : i < D.fs.length := by omega
    obtain ⟨⟨nm, g⟩, hx⟩ : ∃ q, D.fs[i]? = some q := ⟨_, List.getElem?_eq_getElem hin⟩
    obtain ⟨b, cs, vs, rfl, _, rfl, ⟨sg, rfl, hsg⟩, hj, hT, _⟩ := hD.at kF hx
    have hj0 : cs[0 + (i : Int).toNat * 5 + 0]? = some (.string nm) := hj 0 (by decide)
    have hdr : D.fs.drop i = (nm, g) :: D.fs.drop (i + 1) := drop_cons hx
    rw [hdr] at hpu
    refine skp (dSq ?_)
    refine seq ?_
    refine blk ?_
    refine seq ?_
    refine reg ?_
    refine q (mv rfl) ?_
    refine q (nck rfl) ?_
    refine q (fa fo53_0 rfl) ?_
    refine q (ld na51 rfl (by first | exact mR (by assumption) | repeat (first | assumption | exact m0 | apply mS | apply mA)) (by first | rfl | assumption)) ?_
    refine q (mv rfl) ?_
    refine q (ia Try.underlying51 sz115 rfl rfl (by omega) (by omega)) ?_
    refine q (fa fo115_0 rfl) ?_
    refine q (ld na9 rfl (by first | exact mR (by assumption) | repeat (first | assumption | exact m0 | apply mS | apply mA)) (by first | rfl | assumption)) ?_
    refine q (mv rfl) ?_
    refine q (sNeq rfl rfl) ?_
    refine en ?_
    refine ifd rfl (fun heq => ?_) (fun heq => ?_)
    · rw [List.filter_cons_of_pos (by simpa using heq)] at hpu
      refine reg ?_
      refine q (mv rfl) ?_
      refine q (mv rfl) ?_
      refine q (nck rfl) ?_
      refine q (fa fo53_0 rfl) ?_
      refine q (ld na51 rfl (by first | exact mR (by assumption) | repeat (first | assumption | exact m0 | apply mS | apply mA)) (by first | rfl | assumption)) ?_
      refine q (mv rfl) ?_
      refine q (ia Try.underlying51 sz115 rfl rfl (by omega) (by omega)) ?_
      refine q (ldA ag115 rfl (by first | exact mR (by assumption) | repeat (first | assumption | exact m0 | apply mS | apply mA)) (by first | assumption | repeat constructor)) ?_
      refine apO (l2 := (w, wO (.slice (some ⟨b, 0, none⟩) D.fs.length cap) D.off D.fuse) :: ([(b, .cells cs.toArray 115 (0, 0))] ++ bl)) Try.underlying51 in115 rfl kF hO (a := (nm, g)) ⟨sg, rfl, hsg⟩ (by omega) (by omega) (by decide) (fun a => by first | (simp only [cnt_append, cnt_cons, cnt_nil, wO]; done) | (simp only [cnt_append, cnt_cons, cnt_nil, wO]; omega)) (fun _ => rfl) rfl rfl ?_
      intro vO3 bkO3 u3 hO3
      refine q (asg rfl) ?_
      refine enD (dBn (dSq ?_))
      refine reg ?_
      refine q (mv rfl) ?_
      refine q (by first | exact bAddi rfl rfl (by omega) | exact bAdd rfl rfl) ?_
      refine q (asg rfl) ?_
      refine enD ?_
      refine dLp (m' := D.fs.length - (i + 1)) (e' := [(0, (.pointer (some ⟨w, 0, none⟩))), (1, .string n), (4, vO3), (5, .int .i64 (i + 1 : Nat))]) (by omega) (by repeat first | exact Sub.nil | refine Sub.cons rfl ?_) ?_
      exact ⟨i + 1, _, _, _, rfl, rfl, rfl, by omega, hO3, (by first | omega | (simp only [List.length_append, List.length_cons, List.length_nil]; omega)), by rw [← hpu]; simp⟩
    · rw [List.filter_cons_of_neg (by simpa using heq)] at hpu
      refine skp (dBn (dSq ?_))
      refine reg ?_
      refine q (mv rfl) ?_
      refine q (by first | exact bAddi rfl rfl (by omega) | exact bAdd rfl rfl) ?_
      refine q (asg rfl) ?_
      refine enD ?_
      refine dLp (m' := D.fs.length - (i + 1)) (e' := [(0, (.pointer (some ⟨w, 0, none⟩))), (1, .string n), (4, .slice pO out.length capO), (5, .int .i64 (i + 1 : Nat))]) (by omega) (by repeat first | exact Sub.nil | refine Sub.cons rfl ?_) ?_
      exact ⟨i + 1, _, out, bkO, rfl, rfl, rfl, by omega, hO, by omega, hpu⟩
  · rw [List.drop_of_length_le (by omega)] at hpu
    refine exi (dSe (dLe (dBe (dSq ?_))))
    refine reg ?_
    refine q (mv rfl) ?_
    refine q (mv rfl) ?_
    refine q (nck rfl) ?_
    refine q (fa fo53_0 rfl) ?_
    refine st sz51 rfl rfl rfl (by repeat (first | exact .h | apply In.t | apply In.r)) (by first | assumption | repeat constructor) ?_
    refine enD ?_
    rw [← hpu]
    exact finQN _ rfl (fun a => by first | (simp only [cnt_append, cnt_cons, cnt_nil, wO]; done) | (simp only [cnt_append, cnt_cons, cnt_nil, wO]; omega)) ⟨rfl, .slice pO out.length capO, bkO, rfl, by simpa using hO⟩
theorem rDrop {R l w D n} (hD : IsW w D l) (hsd : Sd D.fs) (hK : D.fs.length ≤ 1000000) : Tri Try.prog 105 [.pointer (some ⟨w, 0, none⟩), .string n] R l fun v l' => v = .tuple #[] ∧ IsW w { D with fs := Dsk.drop D.fs n } l' := by
  obtain ⟨v, bkf, bl, rfl, hD⟩ := hD
  refine (rDropX hD hsd hK).mono ?_
  rintro v l' ⟨h1, v2, bk2, rfl, h2⟩
  exact ⟨h1, v2, bk2, bl, rfl, h2⟩
theorem joined_app (l m : List ByteArray) : joined (l ++ m) = joined l ++ joined m := by
  unfold joined
  rw [List.flatMap_append]
  apply ByteArray.ext
  rw [ByteArray.data_append]
  apply Array.ext'
  simp
theorem joined_one (r : ByteArray) : joined [r] = r := by
  unfold joined
  apply ByteArray.ext
  apply Array.ext'
  simp
theorem rBytes {R n s} {f : File} (hs : SlV 1 R s (f.recs.map .string)) (hK : f.recs.length ≤ 1000000) (hb : (Dsk.bytes f).size ≤ 1000000000000) : Tri Try.prog 69 [.agg (fileW n s f).toArray] R [] fun v l' => v = .string (Dsk.bytes f) ∧ l' = [] := by
  obtain ⟨p, m, cap, rfl, hl⟩ := hs.len
  simp only [List.length_map, Nat.mul_one] at hl
  subst hl
  unfold fileW
  refine enter Try.func69 rfl rfl (by kernel_rfl) rfl fun w0 => ?_
  refine seq ?_
  refine reg ?_
  refine bx rfl rfl ?_
  intro b1
  refine q (asg rfl) ?_
  refine en ?_
  refine seq ?_
  refine reg ?_
  refine q (asg rfl) ?_
  refine en ?_
  refine seq ?_
  refine seq ?_
  refine reg ?_
  refine q (asg rfl) ?_
  refine en ?_
  refine blk ?_
  refine cSub (e' := [(1, .pointer (some ⟨b1, 0, none⟩)), (3, .string (joined [])), (4, .int .i64 (0 : Nat))]) (by repeat first | exact Sub.nil | refine Sub.cons rfl ?_) ?_
  refine loop (fun m' e l' => ∃ (i : Nat), l' = [(b1, .cells (List.toArray [.string n, .slice p f.recs.length cap, .int .i64 f.synced, .bool f.cut, .string f.torn]) 115 (0, 0))] ∧ e = [(1, .pointer (some ⟨b1, 0, none⟩)), (3, .string (joined (f.recs.take i))), (4, .int .i64 i)] ∧ m' = f.recs.length - i ∧ i ≤ f.recs.length) f.recs.length ⟨0, rfl, rfl, rfl, Nat.zero_le _⟩ ?_
  rintro m' _ _ ⟨i, rfl, rfl, rfl, hi⟩
  refine seq ?_
  refine seq ?_
  refine reg ?_
  refine q (mv rfl) ?_
  refine q (fa fo115_1 rfl) ?_
  refine q (ld na33 rfl (by first | exact mR (by assumption) | repeat (first | assumption | exact m0 | apply mS | apply mA)) (by first | rfl | assumption)) ?_
  refine q (lnL Try.underlying33 rfl) ?_
  refine q (bLss rfl rfl) ?_
  refine en ?_
  refine ifd rfl (fun h => ?_) (fun h => ?_)
  · have hin : i < f.recs.length := by omega
    obtain ⟨r, hx⟩ : ∃ q, f.recs[i]? = some q := ⟨_, List.getElem?_eq_getElem hin⟩
    obtain ⟨b, o, cs, E, fz, rfl, _, hR, hj⟩ := hs.at1 (i := i) (v := .string r) (by rw [List.getElem?_map, hx]; rfl)
    have hjs : joined (f.recs.take i) ++ r = joined (f.recs.take (i + 1)) := by
      rw [List.take_add_one, hx, joined_app]; simp [joined_one]
    have hsz : (joined (f.recs.take i)).size + r.size ≤ (Dsk.bytes f).size := by
      rw [← ByteArray.size_append, hjs, Dsk.bytes, ByteArray.size_append]
      have : joined f.recs = joined (f.recs.take (i + 1)) ++ joined (f.recs.drop (i + 1)) := by
        rw [← joined_app, List.take_append_drop]
      rw [this, ByteArray.size_append]; omega
    refine skp (dSq ?_)
    refine seq ?_
    refine blk ?_
    refine reg ?_
    refine q (mv rfl) ?_
    refine q (fa fo115_1 rfl) ?_
    refine q (ld na33 rfl (by first | exact mR (by assumption) | repeat (first | assumption | exact m0 | apply mS | apply mA)) (by first | rfl | assumption)) ?_
    refine q (mv rfl) ?_
    refine q (ia Try.underlying33 sz9 rfl rfl (by omega) (by omega)) ?_
    refine q (ld na9 rfl (by first | exact mR (by assumption) | repeat (first | assumption | exact m0 | apply mS | apply mA)) (by first | rfl | assumption)) ?_
    refine q (sAdd rfl rfl (by omega)) ?_
    rw [hjs]
    refine q (asg rfl) ?_
    refine enD (dBn (dSq ?_))
    refine reg ?_
    refine q (mv rfl) ?_
    refine q (by first | exact bAddi rfl rfl (by omega) | exact bAdd rfl rfl) ?_
    refine q (asg rfl) ?_
    refine enD ?_
    refine dLp (m' := f.recs.length - (i + 1)) (e' := [(1, .pointer (some ⟨b1, 0, none⟩)), (3, .string (joined (f.recs.take (i + 1)))), (4, .int .i64 (i + 1 : Nat))]) (by omega) (by repeat first | exact Sub.nil | refine Sub.cons rfl ?_) ?_
    exact ⟨i + 1, rfl, rfl, rfl, by omega⟩
  · rw [List.take_of_length_le (by omega)]
    refine exi (dSe (dLe (dBe (dSq ?_))))
    refine seq ?_
    refine reg ?_
    refine q (mv rfl) ?_
    refine q (fa fo115_4 rfl) ?_
    refine q (ld na9 rfl (by first | exact mR (by assumption) | repeat (first | assumption | exact m0 | apply mS | apply mA)) (by first | rfl | assumption)) ?_
    refine q (sAdd rfl rfl (by rw [Dsk.bytes, ByteArray.size_append] at hb; omega)) ?_
    refine q (asg rfl) ?_
    refine en ?_
    refine ret ?_
    exact finQ _ rfl rfl (fun a => by first | (simp only [cnt_append, cnt_cons, cnt_nil, wO]; done) | (simp only [cnt_append, cnt_cons, cnt_nil, wO]; omega)) ⟨rfl, rfl⟩
end Go.Proofs.Ytoecfgldnlglnaa

