import Derived.Test.YtoecfgldnlglnaaXRe
set_option linter.unusedVariables false
set_option linter.unusedSimpArgs false
set_option maxRecDepth 20000
namespace Go.Proofs.Ytoecfgldnlglnaa
open Go Go.Wk Go.Wk.Dsk
/-- What the document's Left leaves. -/
theorem rLeft {R n s sk st} {f : File} {keep torn : List Int} {k : Nat} (hs0 : SlC 1 R s (f.recs.map .string)) (hk : SlV 1 R sk (keep.map (.int .i64))) (ht : SlV 1 R st (torn.map (.int .i64)))
    (h0 : f.synced ≤ f.recs.length) (hr : f.recs.length ≤ 1000000) (hkl : keep.length ≤ 1000000000) (htl : torn.length ≤ 1000000000) (hkk : k ≤ 1000000000) (hne : ∀ r ∈ f.recs, 0 < r.size ∧ r.size ≤ 1000000000)
    (htI : ∀ x ∈ torn, -9223372036854775808 ≤ x ∧ x ≤ 9223372036854775807) :
    Tri Try.prog 106 [.agg (fileW n s f).toArray, .agg (List.toArray [sk, st]), .int .i64 k] R [] fun v l' => ∃ s', v = .agg (fileW n s' (crashF f keep torn k)).toArray ∧ SlC 1 (Fz l') s' ((crashF f keep torn k).recs.map .string) := by
  obtain ⟨hK, hK'⟩ := keepI_eq h0 keep k
  have hs := hs0.1
  obtain ⟨p, m, cap, rfl, hl⟩ := hs.len
  obtain ⟨pk, nk, capk, rfl, hlk⟩ := hk.len
  obtain ⟨pt, nt, capt, rfl, hlt⟩ := ht.len
  simp only [List.length_map, Nat.mul_one] at hl hlk hlt
  subst hl hlk hlt
  obtain ⟨L, hL⟩ : ∃ L, L = f.synced + keepN f keep k := ⟨_, rfl⟩
  have hLn : L ≤ f.recs.length := by omega
  unfold fileW
  refine enter Try.func106 rfl rfl (by kernel_rfl) rfl fun w0 => ?_
  refine seq ?_
  refine reg ?_
  refine bx rfl rfl ?_
  intro b1
  refine bx rfl rfl ?_
  intro b2
  refine al zr115 rfl ?_
  intro b3
  refine en ?_
  refine seq ?_
  refine reg ?_
  refine q (fa fo115_2 rfl) ?_
  refine q (ld na3 rfl (by first | exact mR (by assumption) | repeat (first | assumption | exact m0 | apply mS | apply mA)) (by first | rfl | assumption)) ?_
  refine q (asg rfl) ?_
  refine en ?_
  refine seq ?_
  refine cutJ (fun e l' => e = [(2, .int .i64 k), (3, .pointer (some ⟨b1, 0, none⟩)), (4, .pointer (some ⟨b2, 0, none⟩)), (6, .pointer (some ⟨b3, 0, none⟩)), (7, .int .i64 L)] ∧ l' = [(b3, .cells (List.toArray [.string ⟨#[]⟩, .slice none 0 0, .int .i64 0, .bool false, .string ⟨#[]⟩]) 115 (0, 0)), (b2, .cells (List.toArray [.slice pk keep.length capk, .slice pt torn.length capt]) 25 (0, 0)), (b1, .cells (List.toArray [.string n, .slice p f.recs.length cap, .int .i64 f.synced, .bool f.cut, .string f.torn]) 115 (0, 0))]) ?_ ?_
  · refine seq ?_
    refine reg ?_
    refine q (mv rfl) ?_
    refine q (fa fo25_0 rfl) ?_
    refine q (ld na23 rfl (by first | exact mR (by assumption) | repeat (first | assumption | exact m0 | apply mS | apply mA)) (by first | rfl | assumption)) ?_
    refine q (lnL Try.underlying23 rfl) ?_
    refine q (bLss rfl rfl) ?_
    refine q (mv rfl) ?_
    refine decd (t := 17) rfl (fun hk1 => ?_) (fun hk1 => ?_)
    · obtain ⟨x, hx⟩ : ∃ x, keep[k]? = some x := ⟨_, List.getElem?_eq_getElem (by omega)⟩
      have hkn : keepN f keep k = (min (max x 0) ((f.recs.length : Int) - f.synced)).toNat := by unfold keepN; rw [hx]
      obtain ⟨bK, oK, csK, EK, fK, rfl, hkn', hHK, hvK⟩ := hk.at1 (i := k) (v := .int .i64 x) (by rw [List.getElem?_map, hx]; rfl)
      refine gT rfl rfl ?_
      refine q (fa fo25_0 rfl) ?_
      refine gT rfl rfl ?_
      refine q (ld na23 rfl (by first | exact mR (by assumption) | repeat (first | assumption | exact m0 | apply mS | apply mA)) (by first | rfl | assumption)) ?_
      refine gT rfl rfl ?_
      refine q (mv rfl) ?_
      refine gT rfl rfl ?_
      refine q (ia Try.underlying23 sz3 rfl rfl (by omega) (by omega)) ?_
      refine gT rfl rfl ?_
      refine q (ld na3 rfl (by first | exact mR (by assumption) | repeat (first | assumption | exact m0 | apply mS | apply mA)) (by first | rfl | assumption)) ?_
      refine gT rfl rfl ?_
      refine q (bGtr rfl rfl) ?_
      refine q (by first | exact pkT rfl rfl | exact pkF rfl rfl) ?_
      refine en ?_
      refine ifd rfl (fun hx0 => ?_) (fun hx0 => ?_)
      · refine seq ?_
        refine reg ?_
        refine q (fa fo115_1 rfl) ?_
        refine q (ld na33 rfl (by first | exact mR (by assumption) | repeat (first | assumption | exact m0 | apply mS | apply mA)) (by first | rfl | assumption)) ?_
        refine q (lnL Try.underlying33 rfl) ?_
        refine q (asg rfl) ?_
        refine en ?_
        refine seq ?_
        refine drw (by kernel_rfl) [(.q, 0), (.q, 1), (.q, 2), (.q, 3), (.q, 4), (.q, 5), (.q, 6), (.q, 7), (.q, 8), (.q, 9), (.q, 10), (.q, 11)] _ rfl (by kernel_rfl) (by kernel_rfl) trivial ?_
        refine xq rfl (fa fo25_0 rfl) ?_
        refine xq rfl (ld na23 rfl (by first | exact mR (by assumption) | repeat (first | assumption | exact m0 | apply mS | apply mA)) (by first | rfl | assumption)) ?_
        refine xq rfl (mv rfl) ?_
        refine xq rfl (ia Try.underlying23 sz3 rfl rfl (by omega) (by omega)) ?_
        refine xq rfl (ld na3 rfl (by first | exact mR (by assumption) | repeat (first | assumption | exact m0 | apply mS | apply mA)) (by first | rfl | assumption)) ?_
        refine xq rfl (fa fo115_1 rfl) ?_
        refine xq rfl (ld na33 rfl (by first | exact mR (by assumption) | repeat (first | assumption | exact m0 | apply mS | apply mA)) (by first | rfl | assumption)) ?_
        refine xq rfl (lnL Try.underlying33 rfl) ?_
        refine xq rfl (fa fo115_2 rfl) ?_
        refine xq rfl (ld na3 rfl (by first | exact mR (by assumption) | repeat (first | assumption | exact m0 | apply mS | apply mA)) (by first | rfl | assumption)) ?_
        refine xq rfl ((by first | exact bSubi rfl rfl (by omega) | exact bSub rfl rfl)) ?_
        refine xq rfl (bLss rfl rfl) ?_
        refine dSq ?_
        refine ifd rfl (fun hx1 => ?_) (fun hx1 => ?_)
        · refine drw (by kernel_rfl) [(.q, 0), (.q, 1), (.q, 2), (.q, 3), (.q, 4), (.q, 5), (.q, 6), (.q, 7), (.q, 8)] _ rfl (by kernel_rfl) (by kernel_rfl) trivial ?_
          refine xq rfl (fa fo115_2 rfl) ?_
          refine xq rfl (ld na3 rfl (by first | exact mR (by assumption) | repeat (first | assumption | exact m0 | apply mS | apply mA)) (by first | rfl | assumption)) ?_
          refine xq rfl (fa fo25_0 rfl) ?_
          refine xq rfl (ld na23 rfl (by first | exact mR (by assumption) | repeat (first | assumption | exact m0 | apply mS | apply mA)) (by first | rfl | assumption)) ?_
          refine xq rfl (mv rfl) ?_
          refine xq rfl (ia Try.underlying23 sz3 rfl rfl (by omega) (by omega)) ?_
          refine xq rfl (ld na3 rfl (by first | exact mR (by assumption) | repeat (first | assumption | exact m0 | apply mS | apply mA)) (by first | rfl | assumption)) ?_
          refine xq rfl ((by first | exact bAddi rfl rfl (by omega) | exact bAdd rfl rfl)) ?_
          refine xq rfl (asg rfl) ?_
          skip
          rw [show (f.synced : Int) + x = (L : Int) by omega]
          exact dJ (by repeat first | exact Sub.nil | refine Sub.cons rfl ?_) ⟨rfl, rfl⟩
        · refine skp ?_
          rw [show ((f.recs.length : Nat) : Int) = (L : Int) by omega]
          refine dJ (e' := [(2, .int .i64 k), (3, .pointer (some ⟨b1, 0, none⟩)), (4, .pointer (some ⟨b2, 0, none⟩)), (6, .pointer (some ⟨b3, 0, none⟩)), (7, .int .i64 L)]) (by repeat first | exact Sub.nil | refine Sub.cons rfl ?_) ⟨rfl, ?_⟩
          rfl
      · refine skp ?_
        rw [show ((f.synced : Nat) : Int) = (L : Int) by omega]
        refine dJ (e' := [(2, .int .i64 k), (3, .pointer (some ⟨b1, 0, none⟩)), (4, .pointer (some ⟨b2, 0, none⟩)), (6, .pointer (some ⟨b3, 0, none⟩)), (7, .int .i64 L)]) (by repeat first | exact Sub.nil | refine Sub.cons rfl ?_) ⟨rfl, ?_⟩
        rfl
    · have hkn : keepN f keep k = 0 := by unfold keepN; rw [List.getElem?_eq_none (by omega)]
      obtain rfl : L = f.synced := by omega
      first | refine gF rfl rfl rfl ?_ | refine gU rfl rfl ?_
      first | refine gF rfl rfl rfl ?_ | refine gU rfl rfl ?_
      first | refine gF rfl rfl rfl ?_ | refine gU rfl rfl ?_
      first | refine gF rfl rfl rfl ?_ | refine gU rfl rfl ?_
      first | refine gF rfl rfl rfl ?_ | refine gU rfl rfl ?_
      first | refine gF rfl rfl rfl ?_ | refine gU rfl rfl ?_
      refine q (by first | exact pkT rfl rfl | exact pkF rfl rfl) ?_
      refine en ?_
      refine ifF rfl ?_
      refine skp ?_
      exact dJ (by repeat first | exact Sub.nil | refine Sub.cons rfl ?_) ⟨rfl, rfl⟩
  · rintro _ _ ⟨rfl, rfl⟩
    refine seq ?_
    refine cutJ (fun e l' => e = [(2, .int .i64 k), (3, .pointer (some ⟨b1, 0, none⟩)), (4, .pointer (some ⟨b2, 0, none⟩)), (6, .pointer (some ⟨b3, 0, none⟩)), (7, .int .i64 L)] ∧ l' = [(b3, .cells (List.toArray [.string ⟨#[]⟩, .slice none 0 0, .int .i64 0, .bool false, .string ⟨#[]⟩]) 115 (0, 0)), (b2, .cells (List.toArray [.slice pk keep.length capk, .slice pt torn.length capt]) 25 (0, 0)), (b1, .cells (List.toArray [.string n, .slice p f.recs.length cap, .int .i64 f.synced, .bool (f.cut || decide (L < f.recs.length)), .string f.torn]) 115 (0, 0))]) ?_ ?_
    · refine seq ?_
      refine reg ?_
      refine q (mv rfl) ?_
      refine q (fa fo115_1 rfl) ?_
      refine q (ld na33 rfl (by first | exact mR (by assumption) | repeat (first | assumption | exact m0 | apply mS | apply mA)) (by first | rfl | assumption)) ?_
      refine q (lnL Try.underlying33 rfl) ?_
      refine q (bLss rfl rfl) ?_
      refine en ?_
      refine ifd rfl (fun h => ?_) (fun h => ?_)
      · refine reg ?_
        refine q (fa fo115_3 rfl) ?_
        refine st sz4 rfl rfl rfl (by repeat (first | exact .h | apply In.t | apply In.r)) (by first | assumption | repeat constructor) ?_
        refine enD ?_
        exact dJ (by repeat first | exact Sub.nil | refine Sub.cons rfl ?_) ⟨rfl, by rw [show (f.cut || decide (L < f.recs.length)) = true by simp [show L < f.recs.length by omega]]⟩
      · refine skp ?_
        exact dJ (by repeat first | exact Sub.nil | refine Sub.cons rfl ?_) ⟨rfl, by rw [show (f.cut || decide (L < f.recs.length)) = f.cut by simp [show ¬ L < f.recs.length by omega]]⟩
    · rintro _ _ ⟨rfl, rfl⟩
      obtain ⟨T, hT⟩ : ∃ T, T = (crashF f keep torn k).torn := ⟨_, rfl⟩
      have hcr : crashF f keep torn k = { recs := f.recs.take L, synced := L, cut := f.cut || decide (L < f.recs.length), torn := T } := by rw [hT, hL]; rfl
      refine seq ?_
      refine cutJ (fun e l' => e = [(2, .int .i64 k), (3, .pointer (some ⟨b1, 0, none⟩)), (4, .pointer (some ⟨b2, 0, none⟩)), (6, .pointer (some ⟨b3, 0, none⟩)), (7, .int .i64 L)] ∧ l' = [(b3, .cells (List.toArray [.string ⟨#[]⟩, .slice none 0 0, .int .i64 0, .bool false, .string ⟨#[]⟩]) 115 (0, 0)), (b2, .cells (List.toArray [.slice pk keep.length capk, .slice pt torn.length capt]) 25 (0, 0)), (b1, .cells (List.toArray [.string n, .slice p f.recs.length cap, .int .i64 f.synced, .bool (f.cut || decide (L < f.recs.length)), .string T]) 115 (0, 0))]) ?_ ?_
      · refine seq ?_
        refine reg ?_
        refine q (mv rfl) ?_
        refine q (fa fo115_1 rfl) ?_
        refine q (ld na33 rfl (by first | exact mR (by assumption) | repeat (first | assumption | exact m0 | apply mS | apply mA)) (by first | rfl | assumption)) ?_
        refine q (lnL Try.underlying33 rfl) ?_
        refine q (bLss rfl rfl) ?_
        refine q (mv rfl) ?_
        refine decd (t := 59) rfl (fun h5 => ?_) (fun h5 => ?_)
        · refine gT rfl rfl ?_
          refine q (mv rfl) ?_
          refine gT rfl rfl ?_
          refine q (fa fo25_1 rfl) ?_
          refine gT rfl rfl ?_
          refine q (ld na23 rfl (by first | exact mR (by assumption) | repeat (first | assumption | exact m0 | apply mS | apply mA)) (by first | rfl | assumption)) ?_
          refine gT rfl rfl ?_
          refine q (lnL Try.underlying23 rfl) ?_
          refine gT rfl rfl ?_
          refine q (bLss rfl rfl) ?_
          refine q (by first | exact pkT rfl rfl | exact pkF rfl rfl) ?_
          refine en ?_
          refine ifd rfl (fun h6 => ?_) (fun h6 => ?_)
          · obtain ⟨r, hr1⟩ : ∃ r, f.recs[L]? = some r := ⟨_, List.getElem?_eq_getElem (by omega)⟩
            obtain ⟨y, hy⟩ : ∃ y, torn[k]? = some y := ⟨_, List.getElem?_eq_getElem (by omega)⟩
            obtain ⟨bT, oT, csT, ET, fT, rfl, htn, hHT, hvT⟩ := ht.at1 (i := k) (v := .int .i64 y) (by rw [List.getElem?_map, hy]; rfl)
            obtain ⟨bR, oR, csR, ER, fR, rfl, hrn, hHR, hvR⟩ := hs.at1 (i := L) (v := .string r) (by rw [List.getElem?_map, hr1]; rfl)
            have hrs := hne r (List.mem_of_getElem? hr1)
            obtain ⟨hT1, hT2, hT3, hT4⟩ := tornN_ok r y hrs.1
            have hyI := htI y (List.mem_of_getElem? hy)
            have hTe : T = r.extract 0 (tornN r y) := by rw [hT]; simp only [crashF, ← hL, hr1, hy]
            refine seq ?_
            refine reg ?_
            refine q (fa fo115_1 rfl) ?_
            refine q (ld na33 rfl (by first | exact mR (by assumption) | repeat (first | assumption | exact m0 | apply mS | apply mA)) (by first | rfl | assumption)) ?_
            refine q (mv rfl) ?_
            refine q (ia Try.underlying33 sz9 rfl rfl (by omega) (by omega)) ?_
            refine q (ld na9 rfl (by first | exact mR (by assumption) | repeat (first | assumption | exact m0 | apply mS | apply mA)) (by first | rfl | assumption)) ?_
            refine q (lnS Try.underlying9 rfl) ?_
            refine q (asg rfl) ?_
            refine en ?_
            refine seq ?_
            refine reg ?_
            refine q (fa fo25_1 rfl) ?_
            refine q (ld na23 rfl (by first | exact mR (by assumption) | repeat (first | assumption | exact m0 | apply mS | apply mA)) (by first | rfl | assumption)) ?_
            refine q (mv rfl) ?_
            refine q (ia Try.underlying23 sz3 rfl rfl (by omega) (by omega)) ?_
            refine q (ld na3 rfl (by first | exact mR (by assumption) | repeat (first | assumption | exact m0 | apply mS | apply mA)) (by first | rfl | assumption)) ?_
            refine q (mv rfl) ?_
            refine q (bRem rfl rfl (by omega)) ?_
            refine q (asg rfl) ?_
            refine en ?_
            refine seq ?_
            refine seq ?_
            refine reg ?_
            refine q (mv rfl) ?_
            refine q (bLss rfl rfl) ?_
            refine en ?_
            refine ifd rfl (fun h => ?_) (fun h => ?_)
            · rw [if_pos h] at hT1
              refine reg ?_
              refine q (mv rfl) ?_
              refine q (mv rfl) ?_
              refine q (by first | exact bAddi rfl rfl (by omega) | exact bAdd rfl rfl) ?_
              refine q (asg rfl) ?_
              refine en ?_
              refine reg ?_
              refine q (fa fo115_1 rfl) ?_
              refine q (ld na33 rfl (by first | exact mR (by assumption) | repeat (first | assumption | exact m0 | apply mS | apply mA)) (by first | rfl | assumption)) ?_
              refine q (mv rfl) ?_
              refine q (ia Try.underlying33 sz9 rfl rfl (by omega) (by omega)) ?_
              refine q (ld na9 rfl (by first | exact mR (by assumption) | repeat (first | assumption | exact m0 | apply mS | apply mA)) (by first | rfl | assumption)) ?_
              refine q (mv rfl) ?_
              rw [hT1]
              refine q (slT (L := 0) (H := tornN r y) Try.underlying9 rfl rfl rfl (Nat.zero_le _) hT2) ?_
              rw [← hTe]
              refine q (fa fo115_4 rfl) ?_
              refine st sz9 rfl rfl rfl (by repeat (first | exact .h | apply In.t | apply In.r)) (by first | assumption | repeat constructor) ?_
              refine enD ?_
              exact dJ (by repeat first | exact Sub.nil | refine Sub.cons rfl ?_) ⟨rfl, rfl⟩
            · rw [if_neg h] at hT1
              refine skp (dSq ?_)
              refine reg ?_
              refine q (fa fo115_1 rfl) ?_
              refine q (ld na33 rfl (by first | exact mR (by assumption) | repeat (first | assumption | exact m0 | apply mS | apply mA)) (by first | rfl | assumption)) ?_
              refine q (mv rfl) ?_
              refine q (ia Try.underlying33 sz9 rfl rfl (by omega) (by omega)) ?_
              refine q (ld na9 rfl (by first | exact mR (by assumption) | repeat (first | assumption | exact m0 | apply mS | apply mA)) (by first | rfl | assumption)) ?_
              refine q (mv rfl) ?_
              rw [hT1]
              refine q (slT (L := 0) (H := tornN r y) Try.underlying9 rfl rfl rfl (Nat.zero_le _) hT2) ?_
              rw [← hTe]
              refine q (fa fo115_4 rfl) ?_
              refine st sz9 rfl rfl rfl (by repeat (first | exact .h | apply In.t | apply In.r)) (by first | assumption | repeat constructor) ?_
              refine enD ?_
              exact dJ (by repeat first | exact Sub.nil | refine Sub.cons rfl ?_) ⟨rfl, rfl⟩
          · have hTe : T = f.torn := by rw [hT]; simp only [crashF, ← hL, List.getElem?_eq_none (show torn.length ≤ k by omega)]; cases f.recs[L]? <;> rfl
            refine skp ?_
            exact dJ (by repeat first | exact Sub.nil | refine Sub.cons rfl ?_) ⟨rfl, by rw [hTe]⟩
        · have hTe : T = f.torn := by rw [hT]; simp only [crashF, ← hL, List.getElem?_eq_none (show f.recs.length ≤ L by omega)]
          first | refine gF rfl rfl rfl ?_ | refine gU rfl rfl ?_
          first | refine gF rfl rfl rfl ?_ | refine gU rfl rfl ?_
          first | refine gF rfl rfl rfl ?_ | refine gU rfl rfl ?_
          first | refine gF rfl rfl rfl ?_ | refine gU rfl rfl ?_
          first | refine gF rfl rfl rfl ?_ | refine gU rfl rfl ?_
          refine q (by first | exact pkT rfl rfl | exact pkF rfl rfl) ?_
          refine en ?_
          refine ifF rfl ?_
          refine skp ?_
          exact dJ (by repeat first | exact Sub.nil | refine Sub.cons rfl ?_) ⟨rfl, by rw [hTe]⟩
      · rintro _ _ ⟨rfl, rfl⟩
        refine seq ?_
        refine reg ?_
        refine eo (eBs0 Try.underlying33 sz9) ?_
        rintro _ _ ⟨b4, rfl, rfl⟩
        refine q (fa fo115_1 rfl) ?_
        refine q (ld na33 rfl (by first | exact mR (by assumption) | repeat (first | assumption | exact m0 | apply mS | apply mA)) (by first | rfl | assumption)) ?_
        refine q (mv rfl) ?_
        have hcl : L ≤ cap := by have := hs0.cap; omega
        refine q (Sp.to (slS (L := 0) (H := L) (M := cap) Try.underlying33 sz9 rfl rfl rfl rfl (by simp) (Nat.zero_le _) hcl (Nat.le_refl _)) (u := .slice p L cap) (by split <;> simp [Addr.add])) ?_
        have hsub := hs.take (k := L) hLn
        rw [Nat.mul_one, ← List.map_take] at hsub
        refine eo (eAp [(b3, .cells (List.toArray [.string ⟨#[]⟩, .slice none 0 0, .int .i64 0, .bool false, .string ⟨#[]⟩]) 115 (0, 0)), (b2, .cells (List.toArray [.slice pk keep.length capk, .slice pt torn.length capt]) 25 (0, 0)), (b1, .cells (List.toArray [.string n, .slice p f.recs.length cap, .int .i64 f.synced, .bool (f.cut || decide (L < f.recs.length)), .string T]) 115 (0, 0))] Try.underlying33 in9 (by decide) rfl rfl rfl SlO.empty (fun _ => rfl) (fun a => Nat.le_refl _) (fun w' hr' => hsub.src (fun b o hb => .inl hb) hr' Try.underlying33 (all_one_map _ fun _ => rfl)) (by omega) (by omega)) ?_
        rintro v1 _ ⟨bk1, hO1, rfl⟩
        obtain ⟨p1, m1, cap1, rfl, hl1⟩ := hO1.toI.len
        refine q (fa fo115_1 rfl) ?_
        refine st sz33 rfl rfl rfl (by repeat (first | exact .h | apply In.t | apply In.r)) (by first | assumption | repeat constructor) ?_
        refine en ?_
        refine seq ?_
        refine reg ?_
        refine q (mv rfl) ?_
        refine q (fa fo115_2 rfl) ?_
        refine st sz3 rfl rfl rfl (by repeat (first | exact .h | apply In.t | apply In.r)) (by first | assumption | repeat constructor) ?_
        refine en ?_
        refine seq ?_
        refine reg ?_
        refine q (ldA ag115 rfl (by first | exact mR (by assumption) | repeat (first | assumption | exact m0 | apply mS | apply mA)) (by first | assumption | repeat constructor)) ?_
        refine stA sz115 rfl rfl rfl rfl (by repeat (first | exact .h | apply In.t | apply In.r)) (by first | assumption | repeat constructor) ?_
        refine en ?_
        refine ret ?_
        rw [hcr]
        exact finZ bk1 rfl (.agg ag115 rfl (by first | exact mR (by assumption) | repeat (first | assumption | exact m0 | apply mS | apply mA)) (by repeat constructor) .nil) rfl (fun a => by first | (simp only [cnt_append, cnt_cons, cnt_nil, wO, fileW]; done) | (simp only [cnt_append, cnt_cons, cnt_nil, wO, fileW]; omega)) ⟨_, rfl, hO1.toI.toC fun x hx => hx⟩
theorem rCrash {R l w D sk st K} {keep torn : List Int} (hD : IsW w D l) (hO : DOk K D) (hK : K ≤ 100000) (hk : SlV 1 R sk (keep.map (.int .i64))) (ht : SlV 1 R st (torn.map (.int .i64))) (hkl : keep.length ≤ 1000000000) (htl : torn.length ≤ 1000000000)
    (htI : ∀ x ∈ torn, -9223372036854775808 ≤ x ∧ x ≤ 9223372036854775807) : Tri Try.prog 68 [.pointer (some ⟨w, 0, none⟩), .agg (List.toArray [sk, st])] R l fun v l' => v = .tuple #[] ∧ IsW w (Dsk.crash D keep torn) l' := by
  obtain ⟨v, bkf, bl, rfl, hF⟩ := hD
  obtain ⟨p, cap, rfl⟩ := hF.val kF
  obtain ⟨pk, nk, capk, rfl, hlk⟩ := id hk.len
  obtain ⟨pt, nt, capt, rfl, hlt⟩ := id ht.len
  have hlen := hO.len
  refine enter Try.func68 rfl rfl (by kernel_rfl) rfl fun w0 => ?_
  refine seq ?_
  refine reg ?_
  refine bx rfl rfl ?_
  intro b1
  refine en ?_
  refine seq ?_
  refine reg ?_
  refine q (mv rfl) ?_
  refine q (nck rfl) ?_
  refine q (fa fo53_1 rfl) ?_
  refine st sz4 rfl rfl rfl (by repeat (first | exact .h | apply In.t | apply In.r)) (by first | assumption | repeat constructor) ?_
  refine en ?_
  refine seq ?_
  refine reg ?_
  refine q (asg rfl) ?_
  refine en ?_
  refine seq ?_
  refine reg ?_
  refine q (asg rfl) ?_
  refine en ?_
  refine seq ?_
  refine seq ?_
  refine reg ?_
  refine q (asg rfl) ?_
  refine en ?_
  refine blk ?_
  refine cSub (e' := [(0, (.pointer (some ⟨w, 0, none⟩))), (3, .pointer (some ⟨b1, 0, none⟩)), (4, .slice none 0 0), (5, .int .i64 (0 : Nat)), (6, .int .i64 (0 : Nat))]) (by repeat first | exact Sub.nil | refine Sub.cons rfl ?_) ?_
  refine loop (fun m' e l' => ∃ (i k : Nat) (vO : Value) (out : Fs) (bkO J : Bl), l' = bkO ++ (J ++ ((b1, .cells (List.toArray [.slice pk nk capk, .slice pt nt capt]) 25 (0, 0)) :: (w, wO (.slice p D.fs.length cap) true D.fuse) :: (bkf ++ bl))) ∧ e = [(0, (.pointer (some ⟨w, 0, none⟩))), (3, .pointer (some ⟨b1, 0, none⟩)), (4, vO), (5, .int .i64 k), (6, .int .i64 i)] ∧ m' = D.fs.length - i ∧ i ≤ D.fs.length ∧ k ≤ i ∧ OSl 115 5 RepF (Fz (J ++ bl)) vO out bkO ∧ out.length = i ∧ out ++ crashes keep torn (D.fs.drop i) k = crashes keep torn D.fs 0) D.fs.length ⟨0, 0, _, [], [], [], rfl, rfl, rfl, Nat.zero_le _, Nat.le_refl _, OSl.nil, rfl, rfl⟩ ?_
  rintro m' _ _ ⟨i, k, vO, out, bkO, J, rfl, rfl, rfl, hi, hki, hO', hol, hpu⟩
  obtain ⟨pO, capO, rfl⟩ := hO'.val kF
  refine seq ?_
  refine seq ?_
  refine reg ?_
  refine q (mv rfl) ?_
  refine q (mv rfl) ?_
  refine q (nck rfl) ?_
  refine q (fa fo53_0 rfl) ?_
  refine q (ld na51 rfl (by first | exact mR (by assumption) | repeat (first | assumption | exact m0 | apply mS | apply mA)) (by first | rfl | assumption)) ?_
  refine q (lnL Try.underlying51 rfl) ?_
  refine q (bLss rfl rfl) ?_
  refine en ?_
  refine ifd rfl (fun h => ?_) (fun h => ?_)
  · have hin : i < D.fs.length := by omega
    obtain ⟨⟨nm, g⟩, hx⟩ : ∃ q, D.fs[i]? = some q := ⟨_, List.getElem?_eq_getElem hin⟩
    obtain ⟨b, cs, vs, rfl, _, rfl, ⟨sg, rfl, hsg⟩, hj, hT, _⟩ := hF.at kF hx
    obtain ⟨pg, mg, capg, rfl, hlg⟩ := id hsg.len
    simp only [List.length_map, Nat.mul_one] at hlg
    subst hlg
    have hff := (hO.file _ (List.mem_of_getElem? hx)).1
    have hrl := hff.len
    have hdr : D.fs.drop i = (nm, g) :: D.fs.drop (i + 1) := drop_cons hx
    rw [hdr, crashes] at hpu
    refine skp (dSq ?_)
    refine seq ?_
    refine blk ?_
    refine seq ?_
    refine reg ?_
    refine q (mv rfl) ?_
    refine q (nck rfl) ?_
    refine q (fa fo53_0 rfl) ?_
    refine q (ld na51 rfl (by first | exact mR (by assumption) | repeat (first | assumption | exact m0 | apply mS | apply mA)) (by first | rfl | assumption)) ?_
    refine q (mv rfl) ?_
    refine q (ia Try.underlying51 sz115 rfl rfl (by omega) (by omega)) ?_
    refine q (ldA ag115 rfl (by first | exact mR (by assumption) | repeat (first | assumption | exact m0 | apply mS | apply mA)) (by first | assumption | repeat constructor)) ?_
    refine al zr115 rfl ?_
    intro b2
    refine stA sz115 rfl rfl rfl rfl (by repeat (first | exact .h | apply In.t | apply In.r)) (by first | assumption | repeat constructor) ?_
    refine en ?_
    refine seq ?_
    refine cutJ (fun e l' => ∃ (g' : File) (k' : Nat) (s' : Value) (J' : Bl), (nm, g') :: crashes keep torn (D.fs.drop (i + 1)) k' = (if g.synced < g.recs.length then (nm, crashF g keep torn k) :: crashes keep torn (D.fs.drop (i + 1)) (k + 1) else (nm, g) :: crashes keep torn (D.fs.drop (i + 1)) k) ∧ k' ≤ i + 1 ∧ SlC 1 (Fz (J' ++ bl)) s' (g'.recs.map .string) ∧ (∀ x ∈ J, x ∈ J') ∧ e = [(0, (.pointer (some ⟨w, 0, none⟩))), (3, .pointer (some ⟨b1, 0, none⟩)), (4, .slice pO out.length capO), (5, .int .i64 k'), (6, .int .i64 i), (7, .pointer (some ⟨b2, 0, none⟩))] ∧ l' = (b2, .cells (List.toArray (fileW nm s' g')) 115 (0, 0)) :: (bkO ++ (J' ++ ((b1, .cells (List.toArray [.slice pk nk capk, .slice pt nt capt]) 25 (0, 0)) :: (w, wO (.slice (some ⟨b, 0, none⟩) D.fs.length cap) true D.fuse) :: ([(b, .cells (List.toArray cs) 115 (0, 0))] ++ bl))))) ?_ ?_
    · refine seq ?_
      refine reg ?_
      refine q (fa fo115_2 rfl) ?_
      refine q (ld na3 rfl (by first | exact mR (by assumption) | repeat (first | assumption | exact m0 | apply mS | apply mA)) (by first | rfl | assumption)) ?_
      refine q (fa fo115_1 rfl) ?_
      refine q (ld na33 rfl (by first | exact mR (by assumption) | repeat (first | assumption | exact m0 | apply mS | apply mA)) (by first | rfl | assumption)) ?_
      refine q (lnL Try.underlying33 rfl) ?_
      refine q (bLss rfl rfl) ?_
      refine en ?_
      refine ifd rfl (fun hlt => ?_) (fun hlt => ?_)
      · refine seq ?_
        refine reg ?_
        refine q (ldA ag115 rfl (by first | exact mR (by assumption) | repeat (first | assumption | exact m0 | apply mS | apply mA)) (by first | assumption | repeat constructor)) ?_
        refine q (ldA ag25 rfl (by first | exact mR (by assumption) | repeat (first | assumption | exact m0 | apply mS | apply mA)) (by first | assumption | repeat constructor)) ?_
        refine q (mv rfl) ?_
        refine cl0 fb106 rfl (rLeft (n := nm) (k := k) (hsg.mono fun b o hb => .inr (by simp [show (b, o) ∈ bl from hb])) (hk.mono fun b o hb => .inl hb) (ht.mono fun b o hb => .inl hb) hff.syn (by omega) hkl htl (by omega) (fun r hr => ⟨(hff.rcs r hr).1, by have := (hff.rcs r hr).2; omega⟩) htI) ?_
        rintro _ nw ⟨s', rfl, hs'⟩
        obtain ⟨ps', ms', caps', rfl, hls'⟩ := id hs'.len
        refine stA sz115 rfl rfl rfl rfl (by repeat (first | exact .h | apply In.t | apply In.r)) (by first | assumption | repeat constructor) ?_
        refine en ?_
        refine reg ?_
        refine q (mv rfl) ?_
        refine q (by first | exact bAddi rfl rfl (by omega) | exact bAdd rfl rfl) ?_
        refine q (asg rfl) ?_
        refine enD ?_
        refine dPerm (l' := (b2, .cells (List.toArray (fileW nm (.slice ps' ms' caps') (crashF g keep torn k))) 115 (0, 0)) :: (bkO ++ ((nw ++ J) ++ ((b1, .cells (List.toArray [.slice pk nk capk, .slice pt nt capt]) 25 (0, 0)) :: (w, wO (.slice (some ⟨b, 0, none⟩) D.fs.length cap) true D.fuse) :: ([(b, .cells (List.toArray cs) 115 (0, 0))] ++ bl))))) (permC (fun a => by first | (simp only [cnt_append, cnt_cons, cnt_nil, wO, fileW]; done) | (simp only [cnt_append, cnt_cons, cnt_nil, wO, fileW]; omega))) (dJ (by repeat first | exact Sub.nil | refine Sub.cons rfl ?_) ⟨crashF g keep torn k, k + 1, _, nw ++ J, by rw [if_pos (Int.ofNat_lt.1 hlt)], by omega, hs'.mono (fun b o hb => by simp [Fz, show (b, o) ∈ nw from hb]), fun x hx => by simp [hx], rfl, rfl⟩)
      · refine skp ?_
        exact dJ (by repeat first | exact Sub.nil | refine Sub.cons rfl ?_) ⟨g, k, _, J, by rw [if_neg (fun h' => hlt (Int.ofNat_lt.2 h'))], by omega, hsg.mono (fun b o hb => by simp [Fz, show (b, o) ∈ bl from hb]), fun x hx => hx, rfl, rfl⟩
    · rintro _ _ ⟨g', k', s', J', hg', hk', hs', hJ, rfl, rfl⟩
      obtain ⟨ps', ms', caps', rfl, hls'⟩ := id hs'.len
      rw [← hg'] at hpu
      refine reg ?_
      refine q (mv rfl) ?_
      refine q (ldA ag115 rfl (by first | exact mR (by assumption) | repeat (first | assumption | exact m0 | apply mS | apply mA)) (by first | assumption | repeat constructor)) ?_
      refine apO (l2 := (b2, .cells (List.toArray (fileW nm (.slice ps' ms' caps') g')) 115 (0, 0)) :: (J' ++ ((b1, .cells (List.toArray [.slice pk nk capk, .slice pt nt capt]) 25 (0, 0)) :: (w, wO (.slice (some ⟨b, 0, none⟩) D.fs.length cap) true D.fuse) :: ([(b, .cells (List.toArray cs) 115 (0, 0))] ++ bl)))) Try.underlying51 in115 rfl kF (OSl.fz hO' (bl' := J' ++ bl) (fun x hx => by rcases List.mem_append.1 hx with hx | hx; exact List.mem_append_left _ (hJ x hx); exact List.mem_append_right _ hx)) (a := (nm, g')) ⟨_, rfl, hs'⟩ (by omega) (by omega) (by decide) (fun a => by first | (simp only [cnt_append, cnt_cons, cnt_nil, wO, fileW]; done) | (simp only [cnt_append, cnt_cons, cnt_nil, wO, fileW]; omega)) (fun _ => rfl) rfl rfl ?_
      intro vO3 bkO3 u3 hO3
      refine q (asg rfl) ?_
      refine enD (dBn (dSq ?_))
      refine reg ?_
      refine q (mv rfl) ?_
      refine q (by first | exact bAddi rfl rfl (by omega) | exact bAdd rfl rfl) ?_
      refine q (asg rfl) ?_
      refine enD ?_
      refine dPerm (l' := bkO3 ++ (((b2, .cells (List.toArray (fileW nm (.slice ps' ms' caps') g')) 115 (0, 0)) :: J') ++ ((b1, .cells (List.toArray [.slice pk nk capk, .slice pt nt capt]) 25 (0, 0)) :: (w, wO (.slice (some ⟨b, 0, none⟩) D.fs.length cap) true D.fuse) :: ([(b, .cells (List.toArray cs) 115 (0, 0))] ++ bl)))) (permC (fun a => by first | (simp only [cnt_append, cnt_cons, cnt_nil, wO, fileW]; done) | (simp only [cnt_append, cnt_cons, cnt_nil, wO, fileW]; omega))) (dLp (m' := D.fs.length - (i + 1)) (e' := [(0, (.pointer (some ⟨w, 0, none⟩))), (3, .pointer (some ⟨b1, 0, none⟩)), (4, vO3), (5, .int .i64 k'), (6, .int .i64 (i + 1 : Nat))]) (by omega) (by repeat first | exact Sub.nil | refine Sub.cons rfl ?_) ?_)
      exact ⟨i + 1, k', _, _, _, _, rfl, rfl, rfl, by omega, hk', OSl.fz hO3 (fun x hx => List.mem_cons_of_mem _ hx), by simp [hol], by rw [← hpu]; simp⟩
  · rw [List.drop_of_length_le (by omega), crashes, List.append_nil] at hpu
    refine exi (dSe (dLe (dBe (dSq ?_))))
    refine reg ?_
    refine q (mv rfl) ?_
    refine q (mv rfl) ?_
    refine q (nck rfl) ?_
    refine q (fa fo53_0 rfl) ?_
    refine st sz51 rfl rfl rfl (by repeat (first | exact .h | apply In.t | apply In.r)) (by first | assumption | repeat constructor) ?_
    refine enD ?_
    have hW := IsW.mk (w := w) (D := Dsk.crash D keep torn) (v := .slice pO out.length capO) (bkf := bkO) (bl := J ++ bl) (off := true) (fuse := D.fuse) (by show OSl 115 5 RepF _ _ (crashes keep torn D.fs 0) _; rw [← hpu]; exact hO') rfl rfl
    exact finQN _ rfl (fun a => by first | (simp only [cnt_append, cnt_cons, cnt_nil, wO, fileW]; done) | (simp only [cnt_append, cnt_cons, cnt_nil, wO, fileW]; omega)) ⟨rfl, hW⟩
end Go.Proofs.Ytoecfgldnlglnaa

