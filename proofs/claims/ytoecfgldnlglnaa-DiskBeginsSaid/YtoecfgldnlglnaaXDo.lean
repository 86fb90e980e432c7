import Derived.Test.YtoecfgldnlglnaaXDl
import Derived.Test.YtoecfgldnlglnaaXDskB
set_option linter.unusedVariables false
set_option linter.unusedSimpArgs false
set_option maxRecDepth 20000
namespace Go.Proofs.Ytoecfgldnlglnaa
open Go Go.Wk Go.Wk.Dsk

theorem wDiskBegins {R l v1 a1 sk st} {keep torn : List Int} (h1 : ActsV R v1 a1) (w1 : ∀ x ∈ a1, AW x) (hk : SlV 1 R sk (keep.map (.int .i64))) (ht : SlV 1 R st (torn.map (.int .i64))) (htI : ∀ y ∈ torn, -9223372036854775808 ≤ y ∧ y ≤ 9223372036854775807) :
    Tri Try.prog 3 [v1, .agg (List.toArray [sk, st])] R l fun v l' => v = .bool true ∧ l' = l := by
  obtain ⟨pk, nk, capk, rfl, hlk⟩ := hk.len
  obtain ⟨pt, nt, capt, rfl, hlt⟩ := ht.len
  simp only [List.length_map, Nat.mul_one] at hlk hlt
  refine enter Try.func3 rfl rfl (by kernel_rfl) rfl fun w0 => ?_
  refine seq ?_
  refine reg ?_
  refine bx rfl rfl ?_
  intro b1
  refine q (asg rfl) ?_
  refine en ?_
  refine seq ?_
  refine seq ?_
  refine reg ?_
  refine q (mv rfl) ?_
  refine cl fb12 rfl ((dGreat h1)) ?_
  rintro _ l' ⟨b, rfl, hb, hl'⟩
  rw [hl']
  refine q (mv rfl) ?_
  refine dec (t := 21) rfl (fun g1 => ?_) (fun g1 => ?_)
  · refine gF rfl rfl rfl ?_
    refine gF rfl rfl rfl ?_
    refine q (by first | exact pkT rfl rfl | exact pkF rfl rfl) ?_
    refine en ?_
    refine ifT rfl ?_
    refine seq ?_
    refine reg ?_
    refine cl fb14 rfl (dAwake) ?_
    rintro _ l' ⟨rfl, hl'⟩
    rw [hl']
    refine q (asg rfl) ?_
    refine en ?_
    refine ret (dSr ?_)
    exact finQ l rfl rfl (fun a => by simp only [cnt_append, cnt_cons, cnt_nil]; omega) ⟨rfl, rfl⟩
  · refine gT rfl rfl ?_
    refine q (ldA ag25 rfl (by first | exact mR (by assumption) | repeat (first | assumption | exact m0 | apply mS | apply mA)) (by first | assumption | repeat constructor)) ?_
    refine gT rfl rfl ?_
    refine cl fb13 rfl (dGreatCrash) ?_
    rintro _ l' ⟨b3, rfl, hb3, hl'⟩
    rw [hl']
    refine q (by first | exact pkT rfl rfl | exact pkF rfl rfl) ?_
    refine en ?_
    refine ifb rfl (fun g3 => ?_) (fun g3 => ?_)
    · refine seq ?_
      refine reg ?_
      refine cl fb14 rfl (dAwake) ?_
      rintro _ l' ⟨rfl, hl'⟩
      rw [hl']
      refine q (asg rfl) ?_
      refine en ?_
      refine ret (dSr ?_)
      exact finQ l rfl rfl (fun a => by simp only [cnt_append, cnt_cons, cnt_nil]; omega) ⟨rfl, rfl⟩
    · have s1 := hb g1
      have s3 := hb3 g3
      have ok1 := s1.ok w1
      have n1 := s1.1
      have O1 : DOk 100 (plays new a1) := ((DOk.new 0).plays ok1).mono (by omega)
      refine skp (dSq ?_)
      refine seq ?_
      refine reg ?_
      refine cl fb15 rfl (dNew) ?_
      rintro _ _ ⟨d, l1, rfl, hD, rfl⟩
      refine q (asg rfl) ?_
      refine en ?_
      refine seq ?_
      refine reg ?_
      refine q (mv rfl) ?_
      refine q (mv rfl) ?_
      refine clQ fb16 rfl l1 ((b1, .cells (List.toArray [.slice pk nk capk, .slice pt nt capt]) 25 (0, 0)) :: l) (fun _ => rfl) (dPlays (h1.mono fun b o h => .inl h) ok1 hD (DOk.new 0) (by omega)) ?_
      rintro _ l2 ⟨rfl, hD⟩
      refine en ?_
      refine seq ?_
      refine reg ?_
      refine q (mv rfl) ?_
      refine clQ fb17 rfl l2 ((b1, .cells (List.toArray [.slice pk nk capk, .slice pt nt capt]) 25 (0, 0)) :: l) (fun _ => rfl) (dStartD hD) ?_
      rintro _ l2 ⟨rfl, hD⟩
      refine en ?_
      refine seq ?_
      refine reg ?_
      refine q (mv rfl) ?_
      refine clQ fb18 rfl l2 ((b1, .cells (List.toArray [.slice pk nk capk, .slice pt nt capt]) 25 (0, 0)) :: l) (fun _ => rfl) (dFuseD (n := 0) hD) ?_
      rintro _ l2 ⟨rfl, hD⟩
      have O0 : DOk 100 (fuse (Dsk.start (plays new a1)) 0) := O1.start.fuse' (by decide)
      obtain ⟨D0, hD0⟩ : ∃ D0, D0 = fuse (Dsk.start (plays new a1)) 0 := ⟨_, rfl⟩
      rw [← hD0] at hD O0
      have off0 : D0.off = false := by rw [hD0]; rfl
      have fu0 : D0.fuse = 0 := by rw [hD0]; rfl
      refine en ?_
      refine seq ?_
      refine reg ?_
      refine q (mv rfl) ?_
      refine clQ fb19 rfl l2 ((b1, .cells (List.toArray [.slice pk nk capk, .slice pt nt capt]) 25 (0, 0)) :: l) (fun _ => rfl) (dTwin hD O0 (by decide)) ?_
      rintro _ _ ⟨t, lt, rfl, hT, rfl⟩
      refine q (asg rfl) ?_
      refine en ?_
      refine seq ?_
      refine reg ?_
      refine q (mv rfl) ?_
      refine clQ fb20 rfl l2 (lt ++ ((b1, .cells (List.toArray [.slice pk nk capk, .slice pt nt capt]) 25 (0, 0)) :: l)) (fun a => by simp only [cnt_append, cnt_cons, cnt_nil]; omega) (dListD hD O0 (by decide)) ?_
      rintro _ _ ⟨pn, capn, bkn, rfl, hsn, rfl⟩
      refine q (asg rfl) ?_
      refine en ?_
      refine seq ?_
      refine reg ?_
      refine q (mv rfl) ?_
      refine q (ldA ag25 rfl (by first | exact mR (by assumption) | repeat (first | assumption | exact m0 | apply mS | apply mA)) (by first | assumption | repeat constructor)) ?_
      refine clQ fb21 rfl l2 (bkn ++ (lt ++ ((b1, .cells (List.toArray [.slice pk nk capk, .slice pt nt capt]) 25 (0, 0)) :: l))) (fun a => by simp only [cnt_append, cnt_cons, cnt_nil]; omega) (dCrash hD O0 (by decide) (hk.mono fun b o h => .inl h) (ht.mono fun b o h => .inl h) (by omega) (by omega) htI) ?_
      rintro _ l3 ⟨rfl, hD3⟩
      refine en ?_
      refine seq ?_
      refine reg ?_
      refine q (mv rfl) ?_
      refine clQ fb17 rfl l3 (bkn ++ (lt ++ ((b1, .cells (List.toArray [.slice pk nk capk, .slice pt nt capt]) 25 (0, 0)) :: l))) (fun _ => rfl) (dStartD hD3) ?_
      rintro _ l4 ⟨rfl, hD4⟩
      have O4 := (O0.crash (keep := keep) (torn := torn)).start
      have hlen : (names D0).length ≤ 100 := by have := O0.len; simp only [names, List.length_map]; omega
      have hnd : (names D0).Nodup := O0.sd.nodup
      refine en ?_
      refine seq ?_
      refine seq ?_
      refine reg ?_
      refine q (asg rfl) ?_
      refine en ?_
      refine blk ?_
      refine cSub (e' := [(5, .pointer (some ⟨d, 0, none⟩)), (6, .pointer (some ⟨t, 0, none⟩)), (7, .slice pn (names D0).length capn), (8, .int .i64 (0 : Nat))]) (by repeat first | exact Sub.nil | refine Sub.cons rfl ?_) ?_
      refine loop (fun m' e l' => ∃ (i : Nat) (D' : DM) (ldk : Bl), IsD d D' ldk ∧ l' = ldk ++ (bkn ++ (lt ++ ((b1, .cells (List.toArray [.slice pk nk capk, .slice pt nt capt]) 25 (0, 0)) :: l))) ∧ e = [(5, .pointer (some ⟨d, 0, none⟩)), (6, .pointer (some ⟨t, 0, none⟩)), (7, .slice pn (names D0).length capn), (8, .int .i64 i)] ∧ m' = (names D0).length - i ∧ i ≤ (names D0).length ∧ DOk (100 + i) D' ∧ D'.off = false ∧ D'.fuse = 0 ∧ ∀ (j : Nat) n, i ≤ j → (names D0)[j]? = some n → Dsk.get D'.fs n = Dsk.get (crashes keep torn D0.fs 0) n) (names D0).length ⟨0, _, l4, hD4, rfl, rfl, rfl, Nat.zero_le _, O4, rfl, fu0, fun _ _ _ _ => rfl⟩ ?_
      rintro m' _ _ ⟨i, D', ldk, hD', rfl, rfl, rfl, hi, O', hoff, hfu, hget⟩
      refine seq ?_
      refine seq ?_
      refine reg ?_
      refine q (mv rfl) ?_
      refine q (mv rfl) ?_
      refine q (lnL Try.underlying33 rfl) ?_
      refine q (bLss rfl rfl) ?_
      refine en ?_
      refine ifd rfl (fun h => ?_) (fun h => ?_)
      · have hin : i < (names D0).length := by omega
        obtain ⟨n, hn⟩ : ∃ n, (names D0)[i]? = some n := ⟨_, List.getElem?_eq_getElem hin⟩
        obtain ⟨bN, oN, csN, rfl, _, rfl, hvN⟩ := hsn.toI.at1 (i := i) (v := .string n) (by rw [List.getElem?_map, hn]; rfl)
        obtain ⟨⟨_, f⟩, hq, hqn⟩ := List.mem_map.1 (List.mem_of_getElem? hn)
        simp only at hqn
        subst hqn
        rename_i n
        have hgf : Dsk.get D0.fs n = some f := get_of_mem O0.sd.nodup hq
        have hff : FOk 100 f := (O0.file _ hq).1
        have hrn : right n = true := (O0.file _ hq).2
        have hns := right_size hrn
        obtain ⟨f', gC, hL⟩ : ∃ f', Dsk.get (crashes keep torn D0.fs 0) n = some f' ∧ Dsk.Left f f' := by
          obtain ⟨f', g, ⟨rfl, hs⟩ | ⟨k', rfl, hs⟩⟩ := get_crashes keep torn D0.fs 0 n f hgf
          · exact ⟨_, g, Dsk.Left.same hff hs⟩
          · exact ⟨_, g, Dsk.Left.crash hff hs⟩
        have gD : Dsk.get D'.fs n = some f' := by rw [hget i n (Nat.le_refl _) hn]; exact gC
        obtain ⟨r, hr⟩ := hL.pre
        have hsz : (Dsk.bytes f').size ≤ (Dsk.bytes f).size := by rw [hr, ByteArray.size_append]; omega
        have hbf := hff.bytes
        refine skp (dSq ?_)
        refine seq ?_
        refine blk ?_
        refine seq ?_
        refine reg ?_
        refine q (mv rfl) ?_
        refine q (mv rfl) ?_
        refine q (mv rfl) ?_
        refine q (ia Try.underlying33 sz9 rfl rfl (by omega) (by omega)) ?_
        refine q (ld na9 rfl (by first | exact mR (by assumption) | repeat (first | assumption | exact m0 | apply mS | apply mA)) (by first | rfl | assumption)) ?_
        refine clR fb22 rfl lt (ldk ++ ([(bN, .cells (List.toArray csN) 9 (0, 0))] ++ ((b1, .cells (List.toArray [.slice pk nk capk, .slice pt nt capt]) 25 (0, 0)) :: l))) (fun a => by simp only [cnt_append, cnt_cons, cnt_nil]; omega) (dReadK hT O0 (by decide) (read_of off0 hgf)) ?_
        refine q (mv rfl) ?_
        refine q (ext rfl rfl) ?_
        refine q (ext rfl rfl) ?_
        refine q (asg rfl) ?_
        refine q (asg rfl) ?_
        refine en ?_
        refine seq ?_
        refine reg ?_
        refine q (mv rfl) ?_
        refine q (mv rfl) ?_
        refine q (mv rfl) ?_
        refine q (ia Try.underlying33 sz9 rfl rfl (by omega) (by omega)) ?_
        refine q (ld na9 rfl (by first | exact mR (by assumption) | repeat (first | assumption | exact m0 | apply mS | apply mA)) (by first | rfl | assumption)) ?_
        refine clR fb22 rfl ldk (lt ++ ([(bN, .cells (List.toArray csN) 9 (0, 0))] ++ ((b1, .cells (List.toArray [.slice pk nk capk, .slice pt nt capt]) 25 (0, 0)) :: l))) (fun a => by simp only [cnt_append, cnt_cons, cnt_nil]; omega) (dReadK hD' O' (by omega) (read_of hoff gD)) ?_
        refine q (mv rfl) ?_
        refine q (ext rfl rfl) ?_
        refine q (ext rfl rfl) ?_
        refine q (asg rfl) ?_
        refine q (asg rfl) ?_
        refine en ?_
        refine seq ?_
        refine seq ?_
        refine reg ?_
        refine q (mv rfl) ?_
        refine q (bNeq rfl rfl) ?_
        refine q (mv rfl) ?_
        refine gT rfl rfl ?_
        refine q (mv rfl) ?_
        refine gT rfl rfl ?_
        refine q (bNeq rfl rfl) ?_
        refine gT rfl rfl ?_
        refine q (mv rfl) ?_
        refine gF rfl rfl rfl ?_
        refine gF rfl rfl rfl ?_
        refine gT rfl rfl ?_
        refine q (by first | exact pkT rfl rfl | exact pkF rfl rfl) ?_
        refine q (by first | exact pkT rfl rfl | exact pkF rfl rfl) ?_
        refine q (mv rfl) ?_
        refine gT rfl rfl ?_
        refine q (mv rfl) ?_
        refine gT rfl rfl ?_
        refine q (lnS Try.underlying9 rfl) ?_
        refine gT rfl rfl ?_
        refine q (mv rfl) ?_
        refine gT rfl rfl ?_
        refine q (lnS Try.underlying9 rfl) ?_
        refine gT rfl rfl ?_
        refine q (bGtr rfl rfl) ?_
        refine q (by first | exact pkT rfl rfl | exact pkF rfl rfl) ?_
        refine q (mv rfl) ?_
        refine decd (t := 84) rfl (fun c0 => ?_) (fun c0 => ?_)
        · exact absurd c0 (by omega)
        · refine gT rfl rfl ?_
          refine q (mv rfl) ?_
          refine gT rfl rfl ?_
          refine q (mv rfl) ?_
          refine gT rfl rfl ?_
          refine q (lnS Try.underlying9 rfl) ?_
          refine gT rfl rfl ?_
          refine q (Sp.to (slT (L := 0) (H := (Dsk.bytes f').size) Try.underlying9 rfl rfl rfl (Nat.zero_le _) hsz) (u := .string (Dsk.bytes f')) (congrArg Value.string (by rw [hr]; exact ByteArray.extract_append_eq_left rfl))) ?_
          refine gT rfl rfl ?_
          refine q (mv rfl) ?_
          refine gT rfl rfl ?_
          refine q (sNeq rfl rfl) ?_
          refine q (by first | exact pkT rfl rfl | exact pkF rfl rfl) ?_
          refine en ?_
          refine ifd rfl (fun c1 => ?_) (fun c1 => ?_)
          · exact absurd rfl c1
          · refine skp (dSq ?_)
            refine seq ?_
            refine reg ?_
            refine q (mv rfl) ?_
            refine q (mv rfl) ?_
            refine q (mv rfl) ?_
            refine q (ia Try.underlying33 sz9 rfl rfl (by omega) (by omega)) ?_
            refine q (ld na9 rfl (by first | exact mR (by assumption) | repeat (first | assumption | exact m0 | apply mS | apply mA)) (by first | rfl | assumption)) ?_
            refine clR fb23 rfl lt (ldk ++ ([(bN, .cells (List.toArray csN) 9 (0, 0))] ++ ((b1, .cells (List.toArray [.slice pk nk capk, .slice pt nt capt]) 25 (0, 0)) :: l))) (fun a => by simp only [cnt_append, cnt_cons, cnt_nil]; omega) (dRecordsK hT O0 (by decide) (records_of hgf)) ?_
            refine q (mv rfl) ?_
            refine q (ext rfl rfl) ?_
            refine q (ext rfl rfl) ?_
            refine q (asg rfl) ?_
            refine q (asg rfl) ?_
            refine en ?_
            refine seq ?_
            refine reg ?_
            refine q (mv rfl) ?_
            refine q (mv rfl) ?_
            refine q (mv rfl) ?_
            refine q (ia Try.underlying33 sz9 rfl rfl (by omega) (by omega)) ?_
            refine q (ld na9 rfl (by first | exact mR (by assumption) | repeat (first | assumption | exact m0 | apply mS | apply mA)) (by first | rfl | assumption)) ?_
            refine clR fb23 rfl ldk (lt ++ ([(bN, .cells (List.toArray csN) 9 (0, 0))] ++ ((b1, .cells (List.toArray [.slice pk nk capk, .slice pt nt capt]) 25 (0, 0)) :: l))) (fun a => by simp only [cnt_append, cnt_cons, cnt_nil]; omega) (dRecordsK hD' O' (by omega) (records_of gD)) ?_
            refine q (mv rfl) ?_
            refine q (ext rfl rfl) ?_
            refine q (ext rfl rfl) ?_
            refine q (asg rfl) ?_
            refine q (asg rfl) ?_
            refine en ?_
            refine seq ?_
            refine seq ?_
            refine reg ?_
            refine q (mv rfl) ?_
            refine q (mv rfl) ?_
            refine q (bGtr rfl rfl) ?_
            refine q (mv rfl) ?_
            refine decd (t := 113) rfl (fun c2 => ?_) (fun c2 => ?_)
            · exact absurd c2 (by have := hL.len; omega)
            · refine gT rfl rfl ?_
              refine q (mv rfl) ?_
              refine gT rfl rfl ?_
              refine q (mv rfl) ?_
              refine gT rfl rfl ?_
              refine q (bNeq rfl rfl) ?_
              refine q (by first | exact pkT rfl rfl | exact pkF rfl rfl) ?_
              refine q (mv rfl) ?_
              refine decd (t := 118) rfl (fun c3 => ?_) (fun c3 => ?_)
              · exact absurd (congrArg Int.ofNat hL.syn) c3
              · refine gT rfl rfl ?_
                refine q (mv rfl) ?_
                refine gT rfl rfl ?_
                refine q (mv rfl) ?_
                refine gT rfl rfl ?_
                refine q (bLss rfl rfl) ?_
                refine gT rfl rfl ?_
                refine q (mv rfl) ?_
                refine decd (t := 122) rfl (fun c4 => ?_) (fun c4 => ?_)
                · refine gT rfl rfl ?_
                  refine q (mv rfl) ?_
                  refine gT rfl rfl ?_
                  refine q (mv rfl) ?_
                  refine gT rfl rfl ?_
                  refine q (sEql rfl rfl) ?_
                  refine gT rfl rfl ?_
                  refine q (by first | exact pkT rfl rfl | exact pkF rfl rfl) ?_
                  refine q (by first | exact pkT rfl rfl | exact pkF rfl rfl) ?_
                  refine en ?_
                  refine ifd rfl (fun c5 => ?_) (fun c5 => ?_)
                  · exact absurd (congrArg ByteArray.size c5) (by have := hL.less (by omega); omega)
                  · skip
                    refine skp (dSq ?_)
                    refine seq ?_
                    refine reg ?_
                    refine q (mv rfl) ?_
                    refine q (mv rfl) ?_
                    refine q (mv rfl) ?_
                    refine q (ia Try.underlying33 sz9 rfl rfl (by omega) (by omega)) ?_
                    refine q (ld na9 rfl (by first | exact mR (by assumption) | repeat (first | assumption | exact m0 | apply mS | apply mA)) (by first | rfl | assumption)) ?_
                    rcases (Bool.eq_false_or_eq_true f'.cut) with hc | hc
                    · refine clQ fb24 rfl ldk (lt ++ ([(bN, .cells (List.toArray csN) 9 (0, 0))] ++ ((b1, .cells (List.toArray [.slice pk nk capk, .slice pt nt capt]) 25 (0, 0)) :: l))) (fun a => by simp only [cnt_append, cnt_cons, cnt_nil]; omega) (dAppendK hD' O' (by omega) (by omega) (app_cut hoff hfu hrn (r := ⟨#[120]⟩) (by simp) gD hc)) ?_
                      rintro _ lx ⟨rfl, hX⟩
                      refine q (asg rfl) ?_
                      refine en ?_
                      refine seq ?_
                      refine reg ?_
                      refine q (mv rfl) ?_
                      refine q (mv rfl) ?_
                      refine q (mv rfl) ?_
                      refine q (ia Try.underlying33 sz9 rfl rfl (by omega) (by omega)) ?_
                      refine q (ld na9 rfl (by first | exact mR (by assumption) | repeat (first | assumption | exact m0 | apply mS | apply mA)) (by first | rfl | assumption)) ?_
                      refine clR fb22 rfl lx (lt ++ ([(bN, .cells (List.toArray csN) 9 (0, 0))] ++ ((b1, .cells (List.toArray [.slice pk nk capk, .slice pt nt capt]) 25 (0, 0)) :: l))) (fun _ => rfl) (dReadK hX O' (by omega) (read_of hoff gD)) ?_
                      refine q (mv rfl) ?_
                      refine q (ext rfl rfl) ?_
                      refine q (ext rfl rfl) ?_
                      refine q (asg rfl) ?_
                      refine q (asg rfl) ?_
                      refine en ?_
                      refine seq ?_
                      refine reg ?_
                      refine q (mv rfl) ?_
                      refine q (bNeq rfl rfl) ?_
                      refine q (mv rfl) ?_
                      refine gT rfl rfl ?_
                      refine q (mv rfl) ?_
                      refine gT rfl rfl ?_
                      refine q (bNeq rfl rfl) ?_
                      refine q (by first | exact pkT rfl rfl | exact pkF rfl rfl) ?_
                      refine q (mv rfl) ?_
                      refine gT rfl rfl ?_
                      refine q (mv rfl) ?_
                      refine gT rfl rfl ?_
                      refine q (bEql rfl rfl) ?_
                      refine gT rfl rfl ?_
                      refine q (mv rfl) ?_
                      refine gF rfl rfl rfl ?_
                      refine gF rfl rfl rfl ?_
                      refine gF rfl rfl rfl ?_
                      refine gF rfl rfl rfl ?_
                      refine gT rfl rfl ?_
                      refine q (by first | exact pkT rfl rfl | exact pkF rfl rfl) ?_
                      refine q (by first | exact pkT rfl rfl | exact pkF rfl rfl) ?_
                      refine q (mv rfl) ?_
                      refine gT rfl rfl ?_
                      refine q (mv rfl) ?_
                      refine gT rfl rfl ?_
                      refine q (bNeq rfl rfl) ?_
                      refine gT rfl rfl ?_
                      refine q (mv rfl) ?_
                      refine gT rfl rfl ?_
                      refine q (mv rfl) ?_
                      refine gT rfl rfl ?_
                      refine q (mv rfl) ?_
                      refine gT rfl rfl ?_
                      refine q (sNeq rfl rfl) ?_
                      refine gT rfl rfl ?_
                      refine q (by first | exact pkT rfl rfl | exact pkF rfl rfl) ?_
                      refine q (by first | exact pkT rfl rfl | exact pkF rfl rfl) ?_
                      refine en ?_
                      refine ifd rfl (fun e1 => ?_) (fun e1 => ?_)
                      · exact absurd rfl e1
                      · refine skp (dBn (dSq ?_))
                        refine reg ?_
                        refine q (mv rfl) ?_
                        refine q (by first | exact bAddi rfl rfl (by omega) | exact bAdd rfl rfl) ?_
                        refine q (asg rfl) ?_
                        refine enD ?_
                        refine dSub (lx ++ ([(bN, .cells (List.toArray csN) 9 (0, 0))] ++ (lt ++ ((b1, .cells (List.toArray [.slice pk nk capk, .slice pt nt capt]) 25 (0, 0)) :: l)))) (fun a => by simp only [cnt_append, cnt_cons, cnt_nil]; omega) ?_
                        refine dLp (m' := (names D0).length - (i + 1)) (e' := [(5, .pointer (some ⟨d, 0, none⟩)), (6, .pointer (some ⟨t, 0, none⟩)), (7, .slice (some ⟨bN, oN, none⟩) (names D0).length capn), (8, .int .i64 (i + 1 : Nat))]) (by omega) (by repeat first | exact Sub.nil | refine Sub.cons rfl ?_) ?_
                        exact ⟨i + 1, D', lx, hX, rfl, rfl, rfl, by omega, O'.mono (by omega), hoff, hfu, fun j n' hj hn' => hget j n' (by omega) hn'⟩
                    · refine clQ fb24 rfl ldk (lt ++ ([(bN, .cells (List.toArray csN) 9 (0, 0))] ++ ((b1, .cells (List.toArray [.slice pk nk capk, .slice pt nt capt]) 25 (0, 0)) :: l))) (fun a => by simp only [cnt_append, cnt_cons, cnt_nil]; omega) (dAppendK hD' O' (by omega) (by omega) (app_ok hoff hfu hrn (r := ⟨#[120]⟩) (by simp) gD hc)) ?_
                      rintro _ lx ⟨rfl, hX⟩
                      have O2 : DOk (100 + i + 1) { D' with fs := put D'.fs n { f' with recs := f'.recs ++ [⟨#[120]⟩] } } := by
                        have := O'.append (n := n) (r := ⟨#[120]⟩) (by decide)
                        rwa [app_ok hoff hfu hrn (r := ⟨#[120]⟩) (by simp) gD hc] at this
                      have g2 : Dsk.get (put D'.fs n { f' with recs := f'.recs ++ [⟨#[120]⟩] }) n = some { f' with recs := f'.recs ++ [⟨#[120]⟩] } := by rw [get_put O'.sd, if_pos rfl]
                      have rd2 := read_of (D := { D' with fs := put D'.fs n { f' with recs := f'.recs ++ [⟨#[120]⟩] } }) hoff g2
                      rw [bytes_app ((O'.file _ (get_mem gD)).1.ct hc)] at rd2
                      refine q (asg rfl) ?_
                      refine en ?_
                      refine seq ?_
                      refine reg ?_
                      refine q (mv rfl) ?_
                      refine q (mv rfl) ?_
                      refine q (mv rfl) ?_
                      refine q (ia Try.underlying33 sz9 rfl rfl (by omega) (by omega)) ?_
                      refine q (ld na9 rfl (by first | exact mR (by assumption) | repeat (first | assumption | exact m0 | apply mS | apply mA)) (by first | rfl | assumption)) ?_
                      refine clR fb22 rfl lx (lt ++ ([(bN, .cells (List.toArray csN) 9 (0, 0))] ++ ((b1, .cells (List.toArray [.slice pk nk capk, .slice pt nt capt]) 25 (0, 0)) :: l))) (fun _ => rfl) (dReadK hX O2 (by omega) rd2) ?_
                      refine q (mv rfl) ?_
                      refine q (ext rfl rfl) ?_
                      refine q (ext rfl rfl) ?_
                      refine q (asg rfl) ?_
                      refine q (asg rfl) ?_
                      refine en ?_
                      refine seq ?_
                      refine reg ?_
                      refine q (mv rfl) ?_
                      refine q (bNeq rfl rfl) ?_
                      refine q (mv rfl) ?_
                      refine gF rfl rfl rfl ?_
                      refine gF rfl rfl rfl ?_
                      refine q (by first | exact pkT rfl rfl | exact pkF rfl rfl) ?_
                      refine q (mv rfl) ?_
                      refine gT rfl rfl ?_
                      refine q (mv rfl) ?_
                      refine gT rfl rfl ?_
                      refine q (bEql rfl rfl) ?_
                      refine gT rfl rfl ?_
                      refine q (mv rfl) ?_
                      refine gT rfl rfl ?_
                      refine q (mv rfl) ?_
                      refine gT rfl rfl ?_
                      refine q (mv rfl) ?_
                      refine gT rfl rfl ?_
                      refine q (sAdd rfl rfl (by have : (ByteArray.size ⟨#[120]⟩) = 1 := rfl; omega)) ?_
                      refine gT rfl rfl ?_
                      refine q (sNeq rfl rfl) ?_
                      refine gT rfl rfl ?_
                      refine q (by first | exact pkT rfl rfl | exact pkF rfl rfl) ?_
                      refine q (by first | exact pkT rfl rfl | exact pkF rfl rfl) ?_
                      refine q (mv rfl) ?_
                      refine decd (t := 159) rfl (fun e1 => ?_) (fun e1 => ?_)
                      · exact absurd rfl e1
                      · refine gT rfl rfl ?_
                        refine q (mv rfl) ?_
                        refine gT rfl rfl ?_
                        refine q (bNeq rfl rfl) ?_
                        refine gT rfl rfl ?_
                        refine q (mv rfl) ?_
                        refine gF rfl rfl rfl ?_
                        refine gF rfl rfl rfl ?_
                        refine gF rfl rfl rfl ?_
                        refine gT rfl rfl ?_
                        refine q (by first | exact pkT rfl rfl | exact pkF rfl rfl) ?_
                        refine q (by first | exact pkT rfl rfl | exact pkF rfl rfl) ?_
                        refine en ?_
                        refine ifF rfl ?_
                        refine skp (dBn (dSq ?_))
                        refine reg ?_
                        refine q (mv rfl) ?_
                        refine q (by first | exact bAddi rfl rfl (by omega) | exact bAdd rfl rfl) ?_
                        refine q (asg rfl) ?_
                        refine enD ?_
                        refine dSub (lx ++ ([(bN, .cells (List.toArray csN) 9 (0, 0))] ++ (lt ++ ((b1, .cells (List.toArray [.slice pk nk capk, .slice pt nt capt]) 25 (0, 0)) :: l)))) (fun a => by simp only [cnt_append, cnt_cons, cnt_nil]; omega) ?_
                        refine dLp (m' := (names D0).length - (i + 1)) (e' := [(5, .pointer (some ⟨d, 0, none⟩)), (6, .pointer (some ⟨t, 0, none⟩)), (7, .slice (some ⟨bN, oN, none⟩) (names D0).length capn), (8, .int .i64 (i + 1 : Nat))]) (by omega) (by repeat first | exact Sub.nil | refine Sub.cons rfl ?_) ?_
                        exact ⟨i + 1, _, lx, hX, rfl, rfl, rfl, by omega, O2, hoff, hfu, fun j n' hj hn' => by
                            have hne : n' ≠ n := fun e => by
                              have h1 := List.getElem?_eq_some_iff.1 hn
                              have h2 := List.getElem?_eq_some_iff.1 (e ▸ hn')
                              have := (List.getElem_inj (i := j) (j := i) (h₀ := h2.1) (h₁ := h1.1) hnd).1 (h2.2.trans h1.2.symm)
                              omega
                            simp only [get_put O'.sd, if_neg hne]
                            exact hget j n' (by omega) hn'⟩
                · refine gF rfl rfl rfl ?_
                  refine gF rfl rfl rfl ?_
                  refine gF rfl rfl rfl ?_
                  refine gT rfl rfl ?_
                  refine q (by first | exact pkT rfl rfl | exact pkF rfl rfl) ?_
                  refine q (by first | exact pkT rfl rfl | exact pkF rfl rfl) ?_
                  refine en ?_
                  refine ifF rfl ?_
                  refine skp (dSq ?_)
                  refine seq ?_
                  refine reg ?_
                  refine q (mv rfl) ?_
                  refine q (mv rfl) ?_
                  refine q (mv rfl) ?_
                  refine q (ia Try.underlying33 sz9 rfl rfl (by omega) (by omega)) ?_
                  refine q (ld na9 rfl (by first | exact mR (by assumption) | repeat (first | assumption | exact m0 | apply mS | apply mA)) (by first | rfl | assumption)) ?_
                  rcases (Bool.eq_false_or_eq_true f'.cut) with hc | hc
                  · refine clQ fb24 rfl ldk (lt ++ ([(bN, .cells (List.toArray csN) 9 (0, 0))] ++ ((b1, .cells (List.toArray [.slice pk nk capk, .slice pt nt capt]) 25 (0, 0)) :: l))) (fun a => by simp only [cnt_append, cnt_cons, cnt_nil]; omega) (dAppendK hD' O' (by omega) (by omega) (app_cut hoff hfu hrn (r := ⟨#[120]⟩) (by simp) gD hc)) ?_
                    rintro _ lx ⟨rfl, hX⟩
                    refine q (asg rfl) ?_
                    refine en ?_
                    refine seq ?_
                    refine reg ?_
                    refine q (mv rfl) ?_
                    refine q (mv rfl) ?_
                    refine q (mv rfl) ?_
                    refine q (ia Try.underlying33 sz9 rfl rfl (by omega) (by omega)) ?_
                    refine q (ld na9 rfl (by first | exact mR (by assumption) | repeat (first | assumption | exact m0 | apply mS | apply mA)) (by first | rfl | assumption)) ?_
                    refine clR fb22 rfl lx (lt ++ ([(bN, .cells (List.toArray csN) 9 (0, 0))] ++ ((b1, .cells (List.toArray [.slice pk nk capk, .slice pt nt capt]) 25 (0, 0)) :: l))) (fun _ => rfl) (dReadK hX O' (by omega) (read_of hoff gD)) ?_
                    refine q (mv rfl) ?_
                    refine q (ext rfl rfl) ?_
                    refine q (ext rfl rfl) ?_
                    refine q (asg rfl) ?_
                    refine q (asg rfl) ?_
                    refine en ?_
                    refine seq ?_
                    refine reg ?_
                    refine q (mv rfl) ?_
                    refine q (bNeq rfl rfl) ?_
                    refine q (mv rfl) ?_
                    refine gT rfl rfl ?_
                    refine q (mv rfl) ?_
                    refine gT rfl rfl ?_
                    refine q (bNeq rfl rfl) ?_
                    refine q (by first | exact pkT rfl rfl | exact pkF rfl rfl) ?_
                    refine q (mv rfl) ?_
                    refine gT rfl rfl ?_
                    refine q (mv rfl) ?_
                    refine gT rfl rfl ?_
                    refine q (bEql rfl rfl) ?_
                    refine gT rfl rfl ?_
                    refine q (mv rfl) ?_
                    refine gF rfl rfl rfl ?_
                    refine gF rfl rfl rfl ?_
                    refine gF rfl rfl rfl ?_
                    refine gF rfl rfl rfl ?_
                    refine gT rfl rfl ?_
                    refine q (by first | exact pkT rfl rfl | exact pkF rfl rfl) ?_
                    refine q (by first | exact pkT rfl rfl | exact pkF rfl rfl) ?_
                    refine q (mv rfl) ?_
                    refine gT rfl rfl ?_
                    refine q (mv rfl) ?_
                    refine gT rfl rfl ?_
                    refine q (bNeq rfl rfl) ?_
                    refine gT rfl rfl ?_
                    refine q (mv rfl) ?_
                    refine gT rfl rfl ?_
                    refine q (mv rfl) ?_
                    refine gT rfl rfl ?_
                    refine q (mv rfl) ?_
                    refine gT rfl rfl ?_
                    refine q (sNeq rfl rfl) ?_
                    refine gT rfl rfl ?_
                    refine q (by first | exact pkT rfl rfl | exact pkF rfl rfl) ?_
                    refine q (by first | exact pkT rfl rfl | exact pkF rfl rfl) ?_
                    refine en ?_
                    refine ifd rfl (fun e1 => ?_) (fun e1 => ?_)
                    · exact absurd rfl e1
                    · refine skp (dBn (dSq ?_))
                      refine reg ?_
                      refine q (mv rfl) ?_
                      refine q (by first | exact bAddi rfl rfl (by omega) | exact bAdd rfl rfl) ?_
                      refine q (asg rfl) ?_
                      refine enD ?_
                      refine dSub (lx ++ ([(bN, .cells (List.toArray csN) 9 (0, 0))] ++ (lt ++ ((b1, .cells (List.toArray [.slice pk nk capk, .slice pt nt capt]) 25 (0, 0)) :: l)))) (fun a => by simp only [cnt_append, cnt_cons, cnt_nil]; omega) ?_
                      refine dLp (m' := (names D0).length - (i + 1)) (e' := [(5, .pointer (some ⟨d, 0, none⟩)), (6, .pointer (some ⟨t, 0, none⟩)), (7, .slice (some ⟨bN, oN, none⟩) (names D0).length capn), (8, .int .i64 (i + 1 : Nat))]) (by omega) (by repeat first | exact Sub.nil | refine Sub.cons rfl ?_) ?_
                      exact ⟨i + 1, D', lx, hX, rfl, rfl, rfl, by omega, O'.mono (by omega), hoff, hfu, fun j n' hj hn' => hget j n' (by omega) hn'⟩
                  · refine clQ fb24 rfl ldk (lt ++ ([(bN, .cells (List.toArray csN) 9 (0, 0))] ++ ((b1, .cells (List.toArray [.slice pk nk capk, .slice pt nt capt]) 25 (0, 0)) :: l))) (fun a => by simp only [cnt_append, cnt_cons, cnt_nil]; omega) (dAppendK hD' O' (by omega) (by omega) (app_ok hoff hfu hrn (r := ⟨#[120]⟩) (by simp) gD hc)) ?_
                    rintro _ lx ⟨rfl, hX⟩
                    have O2 : DOk (100 + i + 1) { D' with fs := put D'.fs n { f' with recs := f'.recs ++ [⟨#[120]⟩] } } := by
                      have := O'.append (n := n) (r := ⟨#[120]⟩) (by decide)
                      rwa [app_ok hoff hfu hrn (r := ⟨#[120]⟩) (by simp) gD hc] at this
                    have g2 : Dsk.get (put D'.fs n { f' with recs := f'.recs ++ [⟨#[120]⟩] }) n = some { f' with recs := f'.recs ++ [⟨#[120]⟩] } := by rw [get_put O'.sd, if_pos rfl]
                    have rd2 := read_of (D := { D' with fs := put D'.fs n { f' with recs := f'.recs ++ [⟨#[120]⟩] } }) hoff g2
                    rw [bytes_app ((O'.file _ (get_mem gD)).1.ct hc)] at rd2
                    refine q (asg rfl) ?_
                    refine en ?_
                    refine seq ?_
                    refine reg ?_
                    refine q (mv rfl) ?_
                    refine q (mv rfl) ?_
                    refine q (mv rfl) ?_
                    refine q (ia Try.underlying33 sz9 rfl rfl (by omega) (by omega)) ?_
                    refine q (ld na9 rfl (by first | exact mR (by assumption) | repeat (first | assumption | exact m0 | apply mS | apply mA)) (by first | rfl | assumption)) ?_
                    refine clR fb22 rfl lx (lt ++ ([(bN, .cells (List.toArray csN) 9 (0, 0))] ++ ((b1, .cells (List.toArray [.slice pk nk capk, .slice pt nt capt]) 25 (0, 0)) :: l))) (fun _ => rfl) (dReadK hX O2 (by omega) rd2) ?_
                    refine q (mv rfl) ?_
                    refine q (ext rfl rfl) ?_
                    refine q (ext rfl rfl) ?_
                    refine q (asg rfl) ?_
                    refine q (asg rfl) ?_
                    refine en ?_
                    refine seq ?_
                    refine reg ?_
                    refine q (mv rfl) ?_
                    refine q (bNeq rfl rfl) ?_
                    refine q (mv rfl) ?_
                    refine gF rfl rfl rfl ?_
                    refine gF rfl rfl rfl ?_
                    refine q (by first | exact pkT rfl rfl | exact pkF rfl rfl) ?_
                    refine q (mv rfl) ?_
                    refine gT rfl rfl ?_
                    refine q (mv rfl) ?_
                    refine gT rfl rfl ?_
                    refine q (bEql rfl rfl) ?_
                    refine gT rfl rfl ?_
                    refine q (mv rfl) ?_
                    refine gT rfl rfl ?_
                    refine q (mv rfl) ?_
                    refine gT rfl rfl ?_
                    refine q (mv rfl) ?_
                    refine gT rfl rfl ?_
                    refine q (sAdd rfl rfl (by have : (ByteArray.size ⟨#[120]⟩) = 1 := rfl; omega)) ?_
                    refine gT rfl rfl ?_
                    refine q (sNeq rfl rfl) ?_
                    refine gT rfl rfl ?_
                    refine q (by first | exact pkT rfl rfl | exact pkF rfl rfl) ?_
                    refine q (by first | exact pkT rfl rfl | exact pkF rfl rfl) ?_
                    refine q (mv rfl) ?_
                    refine decd (t := 159) rfl (fun e1 => ?_) (fun e1 => ?_)
                    · exact absurd rfl e1
                    · refine gT rfl rfl ?_
                      refine q (mv rfl) ?_
                      refine gT rfl rfl ?_
                      refine q (bNeq rfl rfl) ?_
                      refine gT rfl rfl ?_
                      refine q (mv rfl) ?_
                      refine gF rfl rfl rfl ?_
                      refine gF rfl rfl rfl ?_
                      refine gF rfl rfl rfl ?_
                      refine gT rfl rfl ?_
                      refine q (by first | exact pkT rfl rfl | exact pkF rfl rfl) ?_
                      refine q (by first | exact pkT rfl rfl | exact pkF rfl rfl) ?_
                      refine en ?_
                      refine ifF rfl ?_
                      refine skp (dBn (dSq ?_))
                      refine reg ?_
                      refine q (mv rfl) ?_
                      refine q (by first | exact bAddi rfl rfl (by omega) | exact bAdd rfl rfl) ?_
                      refine q (asg rfl) ?_
                      refine enD ?_
                      refine dSub (lx ++ ([(bN, .cells (List.toArray csN) 9 (0, 0))] ++ (lt ++ ((b1, .cells (List.toArray [.slice pk nk capk, .slice pt nt capt]) 25 (0, 0)) :: l)))) (fun a => by simp only [cnt_append, cnt_cons, cnt_nil]; omega) ?_
                      refine dLp (m' := (names D0).length - (i + 1)) (e' := [(5, .pointer (some ⟨d, 0, none⟩)), (6, .pointer (some ⟨t, 0, none⟩)), (7, .slice (some ⟨bN, oN, none⟩) (names D0).length capn), (8, .int .i64 (i + 1 : Nat))]) (by omega) (by repeat first | exact Sub.nil | refine Sub.cons rfl ?_) ?_
                      exact ⟨i + 1, _, lx, hX, rfl, rfl, rfl, by omega, O2, hoff, hfu, fun j n' hj hn' => by
                          have hne : n' ≠ n := fun e => by
                            have h1 := List.getElem?_eq_some_iff.1 hn
                            have h2 := List.getElem?_eq_some_iff.1 (e ▸ hn')
                            have := (List.getElem_inj (i := j) (j := i) (h₀ := h2.1) (h₁ := h1.1) hnd).1 (h2.2.trans h1.2.symm)
                            omega
                          simp only [get_put O'.sd, if_neg hne]
                          exact hget j n' (by omega) hn'⟩
      · refine exi (dSe (dLe (dBe (dSq ?_))))
        refine seq ?_
        refine reg ?_
        refine cl fb14 rfl (dAwake) ?_
        rintro _ l9 ⟨rfl, hl9⟩
        rw [hl9]
        refine q (asg rfl) ?_
        refine en ?_
        refine ret ?_
        exact finQ l rfl rfl (fun a => by simp only [cnt_append, cnt_cons, cnt_nil]; omega) ⟨rfl, rfl⟩
end Go.Proofs.Ytoecfgldnlglnaa

