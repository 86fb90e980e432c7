import Derived.Test.YtoecfgldnlglnaaXDl
import Derived.Test.YtoecfgldnlglnaaXDskL
set_option linter.unusedVariables false
set_option linter.unusedSimpArgs false
set_option maxRecDepth 20000
namespace Go.Wk.Dsk
open Go Go.Wk
/-- What a sync that went well tells. -/
theorem synced_now {K D n} (hO : DOk K D) (hoff : D.off = false) (hf : D.fuse = 0) (h : (sync D n).1 = 0) :
    ∃ f0, Lives n f0 (sync D n).2 ∧ (f0.cut = false → f0.torn = ⟨#[]⟩) ∧ Dsk.read (sync D n).2 n = (bytes f0, 0) ∧ records (sync D n).2 n = (f0.recs.length, f0.recs.length) := by
  have hb : burn D = D := by unfold burn; rw [if_neg (by omega)]
  cases hg : Dsk.get D.fs n with
  | none => simp [sync, operates, hoff, hg] at h
  | some f =>
    have e : sync D n = (0, { D with fs := put D.fs n { f with synced := f.recs.length } }) := by simp [sync, operates, hoff, hg, hb]
    rw [e]
    have hg2 : Dsk.get (put D.fs n { f with synced := f.recs.length }) n = some { f with synced := f.recs.length } := by rw [get_put hO.sd, if_pos rfl]
    have hff := (hO.file _ (get_mem hg)).1
    refine ⟨{ f with synced := f.recs.length }, ⟨_, hg2, List.prefix_refl _, Nat.le_refl _, fun hc => ⟨rfl, rfl, hc⟩⟩, hff.ct, ?_, ?_⟩
    · simp [Dsk.read, hoff, hg2]
    · simp [records, fileOf, hg2]
end Go.Wk.Dsk
namespace Go.Proofs.Ytoecfgldnlglnaa
open Go Go.Wk Go.Wk.Dsk

theorem wDiskLasts {R l v1 v2 a1 a2 nm sk st} {keep torn : List Int} (h1 : ActsV R v1 a1) (h2 : ActsV R v2 a2) (w1 : ∀ x ∈ a1, AW x) (w2 : ∀ x ∈ a2, AW x) (hk : SlV 1 R sk (keep.map (.int .i64))) (ht : SlV 1 R st (torn.map (.int .i64))) (htI : ∀ y ∈ torn, -9223372036854775808 ≤ y ∧ y ≤ 9223372036854775807) :
    Tri Try.prog 5 [v1, v2, .string nm, .agg (List.toArray [sk, st])] R l fun v l' => v = .bool true ∧ l' = l := by
  obtain ⟨pk, nk, capk, rfl, hlk⟩ := hk.len
  obtain ⟨pt, nt, capt, rfl, hlt⟩ := ht.len
  simp only [List.length_map, Nat.mul_one] at hlk hlt
  have h2' := h2
  refine enter Try.func5 rfl rfl (by kernel_rfl) rfl fun w0 => ?_
  refine seq ?_
  refine reg ?_
  refine bx rfl rfl ?_
  intro b1
  refine q (asg rfl) ?_
  refine en ?_
  refine seq ?_
  refine seq ?_
  refine reg ?_
  refine q (mv rfl) ?_
  refine cl fb12 rfl ((dGreat h1)) ?_
  rintro _ l' ⟨b, rfl, hb, hl'⟩
  rw [hl']
  refine q (mv rfl) ?_
  refine dec (t := 21) rfl (fun g1 => ?_) (fun g1 => ?_)
  · refine gF rfl rfl rfl ?_
    refine gF rfl rfl rfl ?_
    refine q (by first | exact pkT rfl rfl | exact pkF rfl rfl) ?_
    refine q (mv rfl) ?_
    refine gF rfl rfl rfl ?_
    refine gF rfl rfl rfl ?_
    refine q (by first | exact pkT rfl rfl | exact pkF rfl rfl) ?_
    refine q (mv rfl) ?_
    refine gF rfl rfl rfl ?_
    refine gF rfl rfl rfl ?_
    refine gF rfl rfl rfl ?_
    refine q (by first | exact pkT rfl rfl | exact pkF rfl rfl) ?_
    refine en ?_
    refine ifT rfl ?_
    refine seq ?_
    refine reg ?_
    refine cl fb14 rfl (dAwake) ?_
    rintro _ l' ⟨rfl, hl'⟩
    rw [hl']
    refine q (asg rfl) ?_
    refine en ?_
    refine ret (dSr ?_)
    exact finQ l rfl rfl (fun a => by simp only [cnt_append, cnt_cons, cnt_nil]; omega) ⟨rfl, rfl⟩
  · refine gT rfl rfl ?_
    refine q (mv rfl) ?_
    refine gT rfl rfl ?_
    refine cl fb12 rfl ((dGreat h2)) ?_
    rintro _ l' ⟨b', rfl, hb', hl'⟩
    rw [hl']
    refine q (by first | exact pkT rfl rfl | exact pkF rfl rfl) ?_
    refine q (mv rfl) ?_
    refine dec (t := 25) rfl (fun g2 => ?_) (fun g2 => ?_)
    · refine gF rfl rfl rfl ?_
      refine gF rfl rfl rfl ?_
      refine q (by first | exact pkT rfl rfl | exact pkF rfl rfl) ?_
      refine q (mv rfl) ?_
      refine gF rfl rfl rfl ?_
      refine gF rfl rfl rfl ?_
      refine gF rfl rfl rfl ?_
      refine q (by first | exact pkT rfl rfl | exact pkF rfl rfl) ?_
      refine en ?_
      refine ifT rfl ?_
      refine seq ?_
      refine reg ?_
      refine cl fb14 rfl (dAwake) ?_
      rintro _ l' ⟨rfl, hl'⟩
      rw [hl']
      refine q (asg rfl) ?_
      refine en ?_
      refine ret (dSr ?_)
      exact finQ l rfl rfl (fun a => by simp only [cnt_append, cnt_cons, cnt_nil]; omega) ⟨rfl, rfl⟩
    · refine gT rfl rfl ?_
      refine q (ldA ag25 rfl (by first | exact mR (by assumption) | repeat (first | assumption | exact m0 | apply mS | apply mA)) (by first | assumption | repeat constructor)) ?_
      refine gT rfl rfl ?_
      refine cl fb13 rfl (dGreatCrash) ?_
      rintro _ l' ⟨b3, rfl, hb3, hl'⟩
      rw [hl']
      refine q (by first | exact pkT rfl rfl | exact pkF rfl rfl) ?_
      refine q (mv rfl) ?_
      refine dec (t := 29) rfl (fun g3 => ?_) (fun g3 => ?_)
      · refine gF rfl rfl rfl ?_
        refine gF rfl rfl rfl ?_
        refine gF rfl rfl rfl ?_
        refine q (by first | exact pkT rfl rfl | exact pkF rfl rfl) ?_
        refine en ?_
        refine ifT rfl ?_
        refine seq ?_
        refine reg ?_
        refine cl fb14 rfl (dAwake) ?_
        rintro _ l' ⟨rfl, hl'⟩
        rw [hl']
        refine q (asg rfl) ?_
        refine en ?_
        refine ret (dSr ?_)
        exact finQ l rfl rfl (fun a => by simp only [cnt_append, cnt_cons, cnt_nil]; omega) ⟨rfl, rfl⟩
      · refine gT rfl rfl ?_
        refine q (mv rfl) ?_
        refine gT rfl rfl ?_
        refine q (lnS Try.underlying9 rfl) ?_
        refine gT rfl rfl ?_
        refine q (bGtr rfl rfl) ?_
        refine q (by first | exact pkT rfl rfl | exact pkF rfl rfl) ?_
        refine en ?_
        refine ifd rfl (fun g4 => ?_) (fun g4 => ?_)
        · refine seq ?_
          refine reg ?_
          refine cl fb14 rfl (dAwake) ?_
          rintro _ l' ⟨rfl, hl'⟩
          rw [hl']
          refine q (asg rfl) ?_
          refine en ?_
          refine ret (dSr ?_)
          exact finQ l rfl rfl (fun a => by simp only [cnt_append, cnt_cons, cnt_nil]; omega) ⟨rfl, rfl⟩
        · have s1 := hb g1
          have s2 := hb' g2
          have s3 := hb3 g3
          have ok1 := s1.ok w1
          have ok2 := s2.ok w2
          have n1 := s1.1
          have n2 := s2.1
          have O1 : DOk 100 (plays new a1) := ((DOk.new 0).plays ok1).mono (by omega)
          refine skp (dSq ?_)
          refine seq ?_
          refine reg ?_
          refine cl fb15 rfl (dNew) ?_
          rintro _ _ ⟨d, l1, rfl, hD, rfl⟩
          refine q (asg rfl) ?_
          refine en ?_
          refine seq ?_
          refine reg ?_
          refine q (mv rfl) ?_
          refine q (mv rfl) ?_
          refine clQ fb16 rfl l1 ((b1, .cells (List.toArray [.slice pk nk capk, .slice pt nt capt]) 25 (0, 0)) :: l) (fun _ => rfl) (dPlays (h1.mono fun b o h => .inl h) ok1 hD (DOk.new 0) (by omega)) ?_
          rintro _ l2 ⟨rfl, hD⟩
          refine en ?_
          refine seq ?_
          refine reg ?_
          refine q (mv rfl) ?_
          refine clQ fb17 rfl l2 ((b1, .cells (List.toArray [.slice pk nk capk, .slice pt nt capt]) 25 (0, 0)) :: l) (fun _ => rfl) (dStartD hD) ?_
          rintro _ l2 ⟨rfl, hD⟩
          refine en ?_
          refine seq ?_
          refine reg ?_
          refine q (mv rfl) ?_
          refine clQ fb18 rfl l2 ((b1, .cells (List.toArray [.slice pk nk capk, .slice pt nt capt]) 25 (0, 0)) :: l) (fun _ => rfl) (dFuseD (n := 0) hD) ?_
          rintro _ l2 ⟨rfl, hD⟩
          have O2 : DOk 100 (fuse (Dsk.start (plays new a1)) 0) := O1.start.fuse' (by decide)
          obtain ⟨D1, hD1⟩ : ∃ D1, D1 = fuse (Dsk.start (plays new a1)) 0 := ⟨_, rfl⟩
          rw [← hD1] at hD O2
          have off1 : D1.off = false := by rw [hD1]; rfl
          have fu1 : D1.fuse = 0 := by rw [hD1]; rfl
          refine en ?_
          refine seq ?_
          refine seq ?_
          refine reg ?_
          refine q (mv rfl) ?_
          refine q (mv rfl) ?_
          refine clQ fb28 rfl l2 ((b1, .cells (List.toArray [.slice pk nk capk, .slice pt nt capt]) 25 (0, 0)) :: l) (fun _ => rfl) (dSync (n := nm) hD O2.sd O2.fuse.2) ?_
          rintro _ l2 ⟨rfl, hD⟩
          have O3 := O2.sync (n := nm)
          refine q (bNeq rfl rfl) ?_
          refine en ?_
          refine ifd rfl (fun hs => ?_) (fun hs => ?_)
          · refine seq ?_
            refine reg ?_
            refine cl fb14 rfl (dAwake) ?_
            rintro _ l' ⟨rfl, hl'⟩
            rw [hl']
            refine q (asg rfl) ?_
            refine en ?_
            refine ret (dSr ?_)
            exact finQ l rfl rfl (fun a => by simp only [cnt_append, cnt_cons, cnt_nil]; omega) ⟨rfl, rfl⟩
          · have hs0 : (sync D1 nm).1 = 0 := by simpa using hs
            obtain ⟨f0, g0, c0, e2, r2⟩ := synced_now O2 off1 fu1 hs0
            obtain ⟨D2, hD2⟩ : ∃ D2, D2 = (sync D1 nm).2 := ⟨_, rfl⟩
            rw [← hD2] at hD O3 g0 e2 r2
            refine skp (dSq ?_)
            refine seq ?_
            refine reg ?_
            refine q (mv rfl) ?_
            refine q (mv rfl) ?_
            refine clR fb22 rfl l2 ((b1, .cells (List.toArray [.slice pk nk capk, .slice pt nt capt]) 25 (0, 0)) :: l) (fun _ => rfl) (dReadK hD O3 (by decide) e2) ?_
            refine q (mv rfl) ?_
            refine q (ext rfl rfl) ?_
            refine q (ext rfl rfl) ?_
            refine q (asg rfl) ?_
            refine q (asg rfl) ?_
            refine en ?_
            refine seq ?_
            refine reg ?_
            refine q (mv rfl) ?_
            refine q (mv rfl) ?_
            refine clR fb23 rfl l2 ((b1, .cells (List.toArray [.slice pk nk capk, .slice pt nt capt]) 25 (0, 0)) :: l) (fun _ => rfl) (dRecordsK hD O3 (by decide) r2) ?_
            refine q (mv rfl) ?_
            refine q (ext rfl rfl) ?_
            refine q (ext rfl rfl) ?_
            refine q (asg rfl) ?_
            refine q (asg rfl) ?_
            refine en ?_
            refine seq ?_
            refine seq ?_
            refine reg ?_
            refine q (asg rfl) ?_
            refine en ?_
            refine blk ?_
            obtain ⟨p2, m2, cp2, _, rfl, _, hm2, _⟩ := h2'
            refine cSub (e' := [(1, .slice p2 m2 cp2), (2, .string nm), (7, .pointer (some ⟨b1, 0, none⟩)), (9, .pointer (some ⟨d, 0, none⟩)), (10, .string (Dsk.bytes f0)), (11, .int .i64 0), (12, .int .i64 f0.recs.length), (14, .int .i64 (0 : Nat))]) (by repeat first | exact Sub.nil | refine Sub.cons rfl ?_) ?_
            refine loop (fun m' e l' => ∃ (i : Nat) (D' : DM) (ldk : Bl), IsD d D' ldk ∧ l' = ldk ++ ((b1, .cells (List.toArray [.slice pk nk capk, .slice pt nt capt]) 25 (0, 0)) :: l) ∧ e = [(1, .slice p2 m2 cp2), (2, .string nm), (7, .pointer (some ⟨b1, 0, none⟩)), (9, .pointer (some ⟨d, 0, none⟩)), (10, .string (Dsk.bytes f0)), (11, .int .i64 0), (12, .int .i64 f0.recs.length), (14, .int .i64 i)] ∧ m' = m2 - i ∧ i ≤ m2 ∧ DOk (100 + i) D' ∧ Lives nm f0 D') m2 ⟨0, D2, l2, hD, rfl, rfl, rfl, Nat.zero_le _, O3, g0⟩ ?_
            rintro m' _ _ ⟨i, D', ldk, hD', rfl, rfl, rfl, hi, hO', hlv⟩
            refine seq ?_
            refine seq ?_
            refine reg ?_
            refine q (mv rfl) ?_
            refine q (mv rfl) ?_
            refine q (lnL Try.underlying22 rfl) ?_
            refine q (bLss rfl rfl) ?_
            refine en ?_
            refine ifd rfl (fun h => ?_) (fun h => ?_)
            · have hin : i < m2 := by omega
              obtain ⟨x, b, o, cs, E, fz, vs, hx, rfl, hR, hv, hj, hT⟩ := h2.at hin
              have hxo := ok2 x (List.mem_of_getElem? hx)
              have hv' := hv
              obtain ⟨sk, st, rfl, _, _⟩ := hv'
              have hj0 : cs[o + (i : Int).toNat * 6 + 0]? = some (.int .u8 x.k) := hj 0 (by decide)
              refine skp (dSq ?_)
              refine seq ?_
              refine blk ?_
              refine seq ?_
              refine reg ?_
              refine q (mv rfl) ?_
              refine q (mv rfl) ?_
              refine q (ia Try.underlying22 sz44 rfl rfl (by omega) (by omega)) ?_
              refine q (fa fo44_0 rfl) ?_
              refine q (ld na5 rfl (by first | exact mR (by assumption) | repeat (first | assumption | exact m0 | apply mS | apply mA)) (by first | rfl | assumption)) ?_
              refine q (bNeq rfl rfl) ?_
              refine q (mv rfl) ?_
              refine decd (t := 72) rfl (fun hk2 => ?_) (fun hk2 => ?_)
              · refine gT rfl rfl ?_
                refine q (mv rfl) ?_
                refine gT rfl rfl ?_
                refine q (mv rfl) ?_
                refine gT rfl rfl ?_
                refine q (ia Try.underlying22 sz44 rfl rfl (by omega) (by omega)) ?_
                refine gT rfl rfl ?_
                refine q (fa fo44_0 rfl) ?_
                refine gT rfl rfl ?_
                refine q (ld na5 rfl (by first | exact mR (by assumption) | repeat (first | assumption | exact m0 | apply mS | apply mA)) (by first | rfl | assumption)) ?_
                refine gT rfl rfl ?_
                refine q (bNeq rfl rfl) ?_
                refine q (by first | exact pkT rfl rfl | exact pkF rfl rfl) ?_
                refine en ?_
                refine ifd rfl (fun hk3 => ?_) (fun hk3 => ?_)
                · refine reg ?_
                  refine q (mv rfl) ?_
                  refine q (mv rfl) ?_
                  refine q (mv rfl) ?_
                  refine q (ia Try.underlying22 sz44 rfl rfl (by omega) (by omega)) ?_
                  refine q (ldA ag44 rfl (by first | exact mR (by assumption) | repeat (first | assumption | exact m0 | apply mS | apply mA)) (by first | assumption | repeat constructor)) ?_
                  refine clQ fb25 rfl ldk ((b1, .cells (List.toArray [.slice pk nk capk, .slice pt nt capt]) 25 (0, 0)) :: l) (fun _ => rfl) (dDoes hD' hO' (by omega) hxo (hv.mono fun b o h => .inl h)) ?_
                  rintro _ l3 ⟨rfl, hS⟩
                  refine enD (dBn (dSq ?_))
                  refine reg ?_
                  refine q (mv rfl) ?_
                  refine q (by first | exact bAddi rfl rfl (by omega) | exact bAdd rfl rfl) ?_
                  refine q (asg rfl) ?_
                  refine enD ?_
                  refine dLp (m' := m2 - (i + 1)) (e' := [(1, .slice (some ⟨b, o, none⟩) m2 cp2), (2, .string nm), (7, .pointer (some ⟨b1, 0, none⟩)), (9, .pointer (some ⟨d, 0, none⟩)), (10, .string (Dsk.bytes f0)), (11, .int .i64 0), (12, .int .i64 f0.recs.length), (14, .int .i64 (i + 1 : Nat))]) (by omega) (by repeat first | exact Sub.nil | refine Sub.cons rfl ?_) ?_
                  exact ⟨i + 1, _, l3, hS, rfl, rfl, rfl, by omega, hO'.does hxo, hlv.does hO'.sd hk2 hk3⟩
                · refine skp (dBn (dSq ?_))
                  refine reg ?_
                  refine q (mv rfl) ?_
                  refine q (by first | exact bAddi rfl rfl (by omega) | exact bAdd rfl rfl) ?_
                  refine q (asg rfl) ?_
                  refine enD ?_
                  refine dLp (m' := m2 - (i + 1)) (e' := [(1, .slice (some ⟨b, o, none⟩) m2 cp2), (2, .string nm), (7, .pointer (some ⟨b1, 0, none⟩)), (9, .pointer (some ⟨d, 0, none⟩)), (10, .string (Dsk.bytes f0)), (11, .int .i64 0), (12, .int .i64 f0.recs.length), (14, .int .i64 (i + 1 : Nat))]) (by omega) (by repeat first | exact Sub.nil | refine Sub.cons rfl ?_) ?_
                  exact ⟨i + 1, _, ldk, hD', rfl, rfl, rfl, by omega, hO'.mono (by omega), hlv⟩
              · refine gF rfl rfl rfl ?_
                refine gF rfl rfl rfl ?_
                refine gF rfl rfl rfl ?_
                refine gF rfl rfl rfl ?_
                refine gF rfl rfl rfl ?_
                refine gF rfl rfl rfl ?_
                refine q (by first | exact pkT rfl rfl | exact pkF rfl rfl) ?_
                refine en ?_
                refine ifF rfl ?_
                refine skp (dBn (dSq ?_))
                refine reg ?_
                refine q (mv rfl) ?_
                refine q (by first | exact bAddi rfl rfl (by omega) | exact bAdd rfl rfl) ?_
                refine q (asg rfl) ?_
                refine enD ?_
                refine dLp (m' := m2 - (i + 1)) (e' := [(1, .slice (some ⟨b, o, none⟩) m2 cp2), (2, .string nm), (7, .pointer (some ⟨b1, 0, none⟩)), (9, .pointer (some ⟨d, 0, none⟩)), (10, .string (Dsk.bytes f0)), (11, .int .i64 0), (12, .int .i64 f0.recs.length), (14, .int .i64 (i + 1 : Nat))]) (by omega) (by repeat first | exact Sub.nil | refine Sub.cons rfl ?_) ?_
                exact ⟨i + 1, _, ldk, hD', rfl, rfl, rfl, by omega, hO'.mono (by omega), hlv⟩
            · refine exi (dSe (dLe (dBe (dSq ?_))))
              refine seq ?_
              refine reg ?_
              refine q (mv rfl) ?_
              refine q (ldA ag25 rfl (by first | exact mR (by assumption) | repeat (first | assumption | exact m0 | apply mS | apply mA)) (by first | assumption | repeat constructor)) ?_
              refine clQ fb21 rfl ldk ((b1, .cells (List.toArray [.slice pk nk capk, .slice pt nt capt]) 25 (0, 0)) :: l) (fun _ => rfl) (dCrash hD' hO' (by omega) (hk.mono fun b o h => .inl h) (ht.mono fun b o h => .inl h) (by omega) (by omega) htI) ?_
              rintro _ l3 ⟨rfl, hD3⟩
              refine en ?_
              refine seq ?_
              refine reg ?_
              refine q (mv rfl) ?_
              refine clQ fb17 rfl l3 ((b1, .cells (List.toArray [.slice pk nk capk, .slice pt nt capt]) 25 (0, 0)) :: l) (fun _ => rfl) (dStartD hD3) ?_
              rintro _ l4 ⟨rfl, hD4⟩
              have O4 := (hO'.crash (keep := keep) (torn := torn)).start
              obtain ⟨s, r, q1, q2, q3, q4⟩ := lasts (keep := keep) (torn := torn) hO' hlv c0
              refine en ?_
              refine seq ?_
              refine reg ?_
              refine q (mv rfl) ?_
              refine q (mv rfl) ?_
              refine clR fb22 rfl l4 ((b1, .cells (List.toArray [.slice pk nk capk, .slice pt nt capt]) 25 (0, 0)) :: l) (fun _ => rfl) (dReadK hD4 O4 (by omega) q1) ?_
              refine q (mv rfl) ?_
              refine q (ext rfl rfl) ?_
              refine q (ext rfl rfl) ?_
              refine q (asg rfl) ?_
              refine q (asg rfl) ?_
              refine en ?_
              refine seq ?_
              refine reg ?_
              refine q (mv rfl) ?_
              refine q (mv rfl) ?_
              refine clR fb23 rfl l4 ((b1, .cells (List.toArray [.slice pk nk capk, .slice pt nt capt]) 25 (0, 0)) :: l) (fun _ => rfl) (dRecordsK hD4 O4 (by omega) rfl) ?_
              refine q (mv rfl) ?_
              refine q (ext rfl rfl) ?_
              refine q (ext rfl rfl) ?_
              refine q (asg rfl) ?_
              refine q (asg rfl) ?_
              refine en ?_
              refine seq ?_
              refine reg ?_
              refine q (mv rfl) ?_
              refine q (bEql rfl rfl) ?_
              refine q (mv rfl) ?_
              refine gT rfl rfl ?_
              refine q (mv rfl) ?_
              refine gT rfl rfl ?_
              refine q (bEql rfl rfl) ?_
              refine q (by first | exact pkT rfl rfl | exact pkF rfl rfl) ?_
              refine q (mv rfl) ?_
              refine gT rfl rfl ?_
              refine q (mv rfl) ?_
              refine gT rfl rfl ?_
              refine q (lnS Try.underlying9 rfl) ?_
              refine gT rfl rfl ?_
              refine q (mv rfl) ?_
              refine gT rfl rfl ?_
              refine q (lnS Try.underlying9 rfl) ?_
              refine gT rfl rfl ?_
              refine q (bGeq rfl rfl) ?_
              refine q (by first | exact pkT rfl rfl | exact pkF rfl rfl) ?_
              refine q (mv rfl) ?_
              subst q2
              have hsz : (Dsk.bytes f0).size ≤ (Dsk.bytes f0 ++ r).size := by rw [ByteArray.size_append]; omega
              refine decd (t := 116) rfl (fun t1 => ?_) (fun t1 => ?_)
              · refine gT rfl rfl ?_
                refine q (mv rfl) ?_
                refine gT rfl rfl ?_
                refine q (mv rfl) ?_
                refine gT rfl rfl ?_
                refine q (lnS Try.underlying9 rfl) ?_
                refine gT rfl rfl ?_
                refine q (Sp.to (slT (L := 0) (H := (Dsk.bytes f0).size) Try.underlying9 rfl rfl rfl (Nat.zero_le _) hsz) (congrArg Value.string (ByteArray.extract_append_eq_left rfl))) ?_
                refine gT rfl rfl ?_
                refine q (mv rfl) ?_
                refine gT rfl rfl ?_
                refine q (sEql rfl rfl) ?_
                refine q (by first | exact pkT rfl rfl | exact pkF rfl rfl) ?_
                refine q (mv rfl) ?_
                refine decd (t := 124) rfl (fun t2 => ?_) (fun t2 => ?_)
                · refine gT rfl rfl ?_
                  refine q (mv rfl) ?_
                  refine gT rfl rfl ?_
                  refine q (mv rfl) ?_
                  refine gT rfl rfl ?_
                  refine q (bGeq rfl rfl) ?_
                  refine q (by first | exact pkT rfl rfl | exact pkF rfl rfl) ?_
                  refine q (mv rfl) ?_
                  refine decd (t := 129) rfl (fun t3 => ?_) (fun t3 => ?_)
                  · refine gT rfl rfl ?_
                    refine q (mv rfl) ?_
                    refine gT rfl rfl ?_
                    refine q (mv rfl) ?_
                    refine gT rfl rfl ?_
                    refine q (bEql rfl rfl) ?_
                    refine q (by first | exact pkT rfl rfl | exact pkF rfl rfl) ?_
                    refine q (mv rfl) ?_
                    refine decd (t := 134) rfl (fun t4 => ?_) (fun t4 => ?_)
                    · refine gT rfl rfl ?_
                      refine cl fb14 rfl (dAwake) ?_
                      rintro _ l5 ⟨rfl, hl5⟩
                      rw [hl5]
                      refine q (by first | exact pkT rfl rfl | exact pkF rfl rfl) ?_
                      refine q (asg rfl) ?_
                      refine en ?_
                      refine ret ?_
                      exact finQ l rfl rfl (fun a => by simp only [cnt_append, cnt_cons, cnt_nil]; omega) ⟨rfl, rfl⟩
                    · exact absurd (congrArg Int.ofNat q4) t4
                  · exact absurd (Int.ofNat_le.2 q3) t3
                · exact absurd rfl t2
              · exact absurd (Int.ofNat_le.2 hsz) t1
end Go.Proofs.Ytoecfgldnlglnaa

