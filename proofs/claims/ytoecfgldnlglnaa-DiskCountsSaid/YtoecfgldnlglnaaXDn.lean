import Derived.Test.YtoecfgldnlglnaaXDl
import Derived.Test.YtoecfgldnlglnaaXDskC
set_option linter.unusedVariables false
set_option linter.unusedSimpArgs false
set_option maxRecDepth 20000
namespace Go.Proofs.Ytoecfgldnlglnaa
open Go Go.Wk Go.Wk.Dsk

theorem wDiskCounts {R l v1 v2 acts} {other : List ByteArray} (h1 : ActsV R v1 acts) (w1 : ∀ x ∈ acts, AW x) (ho : SlV 1 R v2 (other.map .string)) :
    Tri Try.prog 4 [v1, v2] R l fun v l' => v = .bool true ∧ l' = l := by
  obtain ⟨po, no, capo, rfl, hlo⟩ := ho.len
  simp only [List.length_map, Nat.mul_one] at hlo
  have h1' := h1
  obtain ⟨p, n, cap, _, rfl, _, hn, _⟩ := h1'
  refine enter Try.func4 rfl rfl (by kernel_rfl) rfl fun w0 => ?_
  refine seq ?_
  refine reg ?_
  refine q (asg rfl) ?_
  refine en ?_
  refine seq ?_
  refine seq ?_
  refine reg ?_
  refine q (mv rfl) ?_
  refine cl fb12 rfl ((dGreat h1)) ?_
  rintro _ l' ⟨b, rfl, hb, hl'⟩
  rw [hl']
  refine en ?_
  refine ifb rfl (fun g1 => ?_) (fun g1 => ?_)
  · refine seq ?_
    refine reg ?_
    refine cl fb14 rfl (dAwake) ?_
    rintro _ l' ⟨rfl, hl'⟩
    rw [hl']
    refine q (asg rfl) ?_
    refine en ?_
    refine ret (dSr ?_)
    exact finQ l rfl rfl (fun a => Nat.le_refl _) ⟨rfl, rfl⟩
  · have s1 := hb g1
    have ok1 := s1.ok w1
    have n1 := s1.1
    refine skp (dSq ?_)
    refine seq ?_
    refine reg ?_
    refine cl fb15 rfl (dNew) ?_
    rintro _ _ ⟨a, la, rfl, hA, rfl⟩
    refine q (asg rfl) ?_
    refine en ?_
    refine seq ?_
    refine reg ?_
    refine cl fb15 rfl (dNew) ?_
    rintro _ _ ⟨b, lb, rfl, hB, rfl⟩
    refine q (asg rfl) ?_
    refine en ?_
    refine seq ?_
    refine seq ?_
    refine reg ?_
    refine q (asg rfl) ?_
    refine en ?_
    refine blk ?_
    refine cSub (e' := [(0, .slice p n cap), (1, .slice po no capo), (5, .pointer (some ⟨a, 0, none⟩)), (6, .pointer (some ⟨b, 0, none⟩)), (7, .int .i64 (0 : Nat))]) (by repeat first | exact Sub.nil | refine Sub.cons rfl ?_) ?_
    refine loop (fun m' e l' => ∃ (i : Nat) (A B : DM) (la lb : Bl), IsD a A la ∧ IsD b B lb ∧ l' = lb ++ (la ++ l) ∧ e = [(0, .slice p n cap), (1, .slice po no capo), (5, .pointer (some ⟨a, 0, none⟩)), (6, .pointer (some ⟨b, 0, none⟩)), (7, .int .i64 i)] ∧ m' = n - i ∧ i ≤ n ∧ DOk i A ∧ DOk i B ∧ DEq A B) n ⟨0, new, new, la, lb, hA, hB, rfl, rfl, rfl, Nat.zero_le _, DOk.new 0, DOk.new 0, DEq.new⟩ ?_
    clear hA hB
    rintro m' _ _ ⟨i, A, B, la, lb, hA, hB, rfl, rfl, rfl, hi, OA, OB, hE⟩
    refine seq ?_
    refine seq ?_
    refine reg ?_
    refine q (mv rfl) ?_
    refine q (mv rfl) ?_
    refine q (lnL Try.underlying22 rfl) ?_
    refine q (bLss rfl rfl) ?_
    refine en ?_
    refine ifd rfl (fun h => ?_) (fun h => ?_)
    · have hin : i < n := by omega
      obtain ⟨x, b0, o, cs, E, fz, vs, hx, rfl, hR, hv, hj, hT⟩ := h1.at hin
      have hxo := ok1 x (List.mem_of_getElem? hx)
      have hv' := hv
      obtain ⟨sk, st, rfl, hks, hts⟩ := hv'
      obtain ⟨pk, nk, capk, rfl, _⟩ := hks.len
      obtain ⟨pt, nt, capt, rfl, _⟩ := hts.len
      refine skp (dSq ?_)
      refine seq ?_
      refine blk ?_
      refine seq ?_
      refine reg ?_
      refine q (mv rfl) ?_
      refine q (mv rfl) ?_
      refine q (ia Try.underlying22 sz44 rfl rfl (by omega) (by omega)) ?_
      refine q (ldA ag44 rfl (by first | exact mR (by assumption) | repeat (first | assumption | exact m0 | apply mS | apply mA)) (by first | assumption | repeat constructor)) ?_
      refine al zr44 rfl ?_
      intro b1
      refine stA sz44 rfl rfl rfl rfl (by repeat (first | exact .h | apply In.t | apply In.r)) (by repeat constructor) ?_
      refine en ?_
      refine seq ?_
      refine reg ?_
      refine q (ldA ag44 rfl (by first | exact mR (by assumption) | repeat (first | assumption | exact m0 | apply mS | apply mA)) (by first | assumption | repeat constructor)) ?_
      refine al zr44 rfl ?_
      intro b2
      refine stA sz44 rfl rfl rfl rfl (by repeat (first | exact .h | apply In.t | apply In.r)) (by repeat constructor) ?_
      refine en ?_
      refine seq ?_
      refine seq ?_
      refine reg ?_
      refine q (fa fo44_0 rfl) ?_
      refine q (ld na5 rfl (by first | exact mR (by assumption) | repeat (first | assumption | exact m0 | apply mS | apply mA)) (by first | rfl | assumption)) ?_
      refine q (bEql rfl rfl) ?_
      refine q (mv rfl) ?_
      refine decd (t := 40) rfl (fun hk0 => ?_) (fun hk0 => ?_)
      · refine gT rfl rfl ?_
        refine q (fa fo44_2 rfl) ?_
        refine gT rfl rfl ?_
        refine q (ld na9 rfl (by first | exact mR (by assumption) | repeat (first | assumption | exact m0 | apply mS | apply mA)) (by first | rfl | assumption)) ?_
        refine gT rfl rfl ?_
        refine q (sNeq rfl rfl) ?_
        refine q (by first | exact pkT rfl rfl | exact pkF rfl rfl) ?_
        refine en ?_
        refine ifd rfl (fun hb0 => ?_) (fun hb0 => ?_)
        · refine seq ?_
          refine reg ?_
          refine q (fa fo44_2 rfl) ?_
          refine st sz9 rfl rfl rfl (by repeat (first | exact .h | apply In.t | apply In.r)) (by repeat constructor) ?_
          refine en ?_
          refine seq ?_
          refine reg ?_
          refine q (mv rfl) ?_
          refine q (mv rfl) ?_
          refine q (lnL Try.underlying33 rfl) ?_
          refine q (bLss rfl rfl) ?_
          refine q (mv rfl) ?_
          refine decd (t := 50) rfl (fun ho1 => ?_) (fun ho1 => ?_)
          · obtain ⟨s, hs⟩ : ∃ s, other[i]? = some s := ⟨_, List.getElem?_eq_getElem (by omega)⟩
            obtain ⟨bo, oo, co, Eo, fo, rfl, hio, hRo, hvo⟩ := ho.at1 (i := i) (v := .string s) (by rw [List.getElem?_map, hs]; rfl)
            refine gT rfl rfl ?_
            refine q (mv rfl) ?_
            refine gT rfl rfl ?_
            refine q (mv rfl) ?_
            refine gT rfl rfl ?_
            refine q (ia Try.underlying33 sz9 rfl rfl (by omega) (by omega)) ?_
            refine gT rfl rfl ?_
            refine q (ld na9 rfl (by first | exact mR (by assumption) | repeat (first | assumption | exact m0 | apply mS | apply mA)) (by first | rfl | assumption)) ?_
            refine gT rfl rfl ?_
            refine q (sNeq rfl rfl) ?_
            refine q (by first | exact pkT rfl rfl | exact pkF rfl rfl) ?_
            refine q (mv rfl) ?_
            refine decd (t := 57) rfl (fun ho2 => ?_) (fun ho2 => ?_)
            · refine gT rfl rfl ?_
              refine q (mv rfl) ?_
              refine gT rfl rfl ?_
              refine q (mv rfl) ?_
              refine gT rfl rfl ?_
              refine q (ia Try.underlying33 sz9 rfl rfl (by omega) (by omega)) ?_
              refine gT rfl rfl ?_
              refine q (ld na9 rfl (by first | exact mR (by assumption) | repeat (first | assumption | exact m0 | apply mS | apply mA)) (by first | rfl | assumption)) ?_
              refine gT rfl rfl ?_
              refine q (lnS Try.underlying9 rfl) ?_
              refine gT rfl rfl ?_
              refine q (bLss rfl rfl) ?_
              refine q (by first | exact pkT rfl rfl | exact pkF rfl rfl) ?_
              refine en ?_
              refine ifd rfl (fun ho3 => ?_) (fun ho3 => ?_)
              · refine reg ?_
                refine q (mv rfl) ?_
                refine q (mv rfl) ?_
                refine q (ia Try.underlying33 sz9 rfl rfl (by omega) (by omega)) ?_
                refine q (ld na9 rfl (by first | exact mR (by assumption) | repeat (first | assumption | exact m0 | apply mS | apply mA)) (by first | rfl | assumption)) ?_
                refine q (fa fo44_2 rfl) ?_
                refine st sz9 rfl rfl rfl (by repeat (first | exact .h | apply In.t | apply In.r)) (by repeat constructor) ?_
                refine en ?_
                refine seq ?_
                refine seq ?_
                refine reg ?_
                refine q (fa fo44_0 rfl) ?_
                refine q (ld na5 rfl (by first | exact mR (by assumption) | repeat (first | assumption | exact m0 | apply mS | apply mA)) (by first | rfl | assumption)) ?_
                refine q (bEql rfl rfl) ?_
                refine en ?_
                refine ifd rfl (fun h4 => ?_) (fun h4 => ?_)
                · exact absurd h4 (by omega)
                · refine skp (dSq ?_)
                  refine seq ?_
                  refine reg ?_
                  refine q (mv rfl) ?_
                  refine q (ldA ag44 rfl (by first | exact mR (by assumption) | repeat (first | assumption | exact m0 | apply mS | apply mA)) (by first | assumption | repeat constructor)) ?_
                  refine clQ fb25 rfl la ((b2, .cells (List.toArray [.int .u8 x.k, .string x.a, .string s, .int .i64 x.n, .slice pk nk capk, .slice pt nt capt]) 44 (0, 0)) :: (b1, .cells (List.toArray [.int .u8 x.k, .string x.a, .string x.b, .int .i64 x.n, .slice pk nk capk, .slice pt nt capt]) 44 (0, 0)) :: (lb ++ l)) (fun a => by simp only [cnt_append, cnt_cons, cnt_nil]; omega) (dDoes hA OA (by omega) hxo (hv.mono fun b o h => .inl h)) ?_
                  rintro _ la' ⟨rfl, hA'⟩
                  refine q (mv rfl) ?_
                  refine q (ext rfl rfl) ?_
                  refine q (ext rfl rfl) ?_
                  refine q (asg rfl) ?_
                  refine q (asg rfl) ?_
                  refine en ?_
                  refine seq ?_
                  refine reg ?_
                  refine q (mv rfl) ?_
                  refine q (ldA ag44 rfl (by first | exact mR (by assumption) | repeat (first | assumption | exact m0 | apply mS | apply mA)) (by first | assumption | repeat constructor)) ?_
                  have hvy : ActV R { x with b := s } [.int .u8 x.k, .string x.a, .string s, .int .i64 x.n, .slice pk nk capk, .slice pt nt capt] := ⟨_, _, rfl, hks, hts⟩
                  have hyo : AOk { x with b := s } := ⟨hxo.a, by simp only; omega, hxo.n, hxo.keep, hxo.torn, hxo.tornI⟩
                  refine clQ fb25 rfl lb (la' ++ ((b2, .cells (List.toArray [.int .u8 x.k, .string x.a, .string s, .int .i64 x.n, .slice pk nk capk, .slice pt nt capt]) 44 (0, 0)) :: (b1, .cells (List.toArray [.int .u8 x.k, .string x.a, .string x.b, .int .i64 x.n, .slice pk nk capk, .slice pt nt capt]) 44 (0, 0)) :: l)) (fun a => by simp only [cnt_append, cnt_cons, cnt_nil]; omega) (dDoes hB OB (by omega) hyo (hvy.mono fun b o h => .inl h)) ?_
                  rintro _ lb' ⟨rfl, hB'⟩
                  have hq := hE.does (x := x) (y := { x with b := s }) ⟨rfl, rfl, rfl, rfl, rfl, fun h => absurd hk0 h, by simp [hb0, ho2]⟩ h4
                  refine q (mv rfl) ?_
                  refine q (ext rfl rfl) ?_
                  refine q (ext rfl rfl) ?_
                  refine q (asg rfl) ?_
                  refine q (asg rfl) ?_
                  refine en ?_
                  refine seq ?_
                  refine reg ?_
                  refine q (mv rfl) ?_
                  refine q (mv rfl) ?_
                  refine q (bNeq rfl rfl) ?_
                  refine en ?_
                  refine ifd rfl (fun h5 => ?_) (fun h5 => ?_)
                  · exact absurd hq.1 h5
                  · refine skp (dBn (dSq ?_))
                    refine reg ?_
                    refine q (mv rfl) ?_
                    refine q (by first | exact bAddi rfl rfl (by omega) | exact bAdd rfl rfl) ?_
                    refine q (asg rfl) ?_
                    refine enD ?_
                    refine dSub (lb' ++ (la' ++ l)) (fun a => by simp only [cnt_append, cnt_cons, cnt_nil]; omega) ?_
                    refine dLp (m' := n - (i + 1)) (e' := [(0, .slice (some ⟨b0, o, none⟩) n cap), (1, .slice (some ⟨bo, oo, none⟩) no capo), (5, .pointer (some ⟨a, 0, none⟩)), (6, .pointer (some ⟨b, 0, none⟩)), (7, .int .i64 (i + 1 : Nat))]) (by omega) (by repeat first | exact Sub.nil | refine Sub.cons rfl ?_) ?_
                    exact ⟨i + 1, _, _, la', lb', hA', hB', rfl, rfl, rfl, by omega, OA.does hxo, OB.does hyo, hq.2⟩
              · refine skp (dSq ?_)
                refine seq ?_
                refine seq ?_
                refine reg ?_
                refine q (fa fo44_0 rfl) ?_
                refine q (ld na5 rfl (by first | exact mR (by assumption) | repeat (first | assumption | exact m0 | apply mS | apply mA)) (by first | rfl | assumption)) ?_
                refine q (bEql rfl rfl) ?_
                refine en ?_
                refine ifd rfl (fun h4 => ?_) (fun h4 => ?_)
                · exact absurd h4 (by omega)
                · refine skp (dSq ?_)
                  refine seq ?_
                  refine reg ?_
                  refine q (mv rfl) ?_
                  refine q (ldA ag44 rfl (by first | exact mR (by assumption) | repeat (first | assumption | exact m0 | apply mS | apply mA)) (by first | assumption | repeat constructor)) ?_
                  refine clQ fb25 rfl la ((b2, .cells (List.toArray [.int .u8 x.k, .string x.a, .string ⟨#[122]⟩, .int .i64 x.n, .slice pk nk capk, .slice pt nt capt]) 44 (0, 0)) :: (b1, .cells (List.toArray [.int .u8 x.k, .string x.a, .string x.b, .int .i64 x.n, .slice pk nk capk, .slice pt nt capt]) 44 (0, 0)) :: (lb ++ l)) (fun a => by simp only [cnt_append, cnt_cons, cnt_nil]; omega) (dDoes hA OA (by omega) hxo (hv.mono fun b o h => .inl h)) ?_
                  rintro _ la' ⟨rfl, hA'⟩
                  refine q (mv rfl) ?_
                  refine q (ext rfl rfl) ?_
                  refine q (ext rfl rfl) ?_
                  refine q (asg rfl) ?_
                  refine q (asg rfl) ?_
                  refine en ?_
                  refine seq ?_
                  refine reg ?_
                  refine q (mv rfl) ?_
                  refine q (ldA ag44 rfl (by first | exact mR (by assumption) | repeat (first | assumption | exact m0 | apply mS | apply mA)) (by first | assumption | repeat constructor)) ?_
                  have hvy : ActV R { x with b := ⟨#[122]⟩ } [.int .u8 x.k, .string x.a, .string ⟨#[122]⟩, .int .i64 x.n, .slice pk nk capk, .slice pt nt capt] := ⟨_, _, rfl, hks, hts⟩
                  have hyo : AOk { x with b := ⟨#[122]⟩ } := ⟨hxo.a, by show (1 : Nat) ≤ 20000; decide, hxo.n, hxo.keep, hxo.torn, hxo.tornI⟩
                  refine clQ fb25 rfl lb (la' ++ ((b2, .cells (List.toArray [.int .u8 x.k, .string x.a, .string ⟨#[122]⟩, .int .i64 x.n, .slice pk nk capk, .slice pt nt capt]) 44 (0, 0)) :: (b1, .cells (List.toArray [.int .u8 x.k, .string x.a, .string x.b, .int .i64 x.n, .slice pk nk capk, .slice pt nt capt]) 44 (0, 0)) :: l)) (fun a => by simp only [cnt_append, cnt_cons, cnt_nil]; omega) (dDoes hB OB (by omega) hyo (hvy.mono fun b o h => .inl h)) ?_
                  rintro _ lb' ⟨rfl, hB'⟩
                  have hq := hE.does (x := x) (y := { x with b := ⟨#[122]⟩ }) ⟨rfl, rfl, rfl, rfl, rfl, fun h => absurd hk0 h, by simp [hb0]⟩ h4
                  refine q (mv rfl) ?_
                  refine q (ext rfl rfl) ?_
                  refine q (ext rfl rfl) ?_
                  refine q (asg rfl) ?_
                  refine q (asg rfl) ?_
                  refine en ?_
                  refine seq ?_
                  refine reg ?_
                  refine q (mv rfl) ?_
                  refine q (mv rfl) ?_
                  refine q (bNeq rfl rfl) ?_
                  refine en ?_
                  refine ifd rfl (fun h5 => ?_) (fun h5 => ?_)
                  · exact absurd hq.1 h5
                  · refine skp (dBn (dSq ?_))
                    refine reg ?_
                    refine q (mv rfl) ?_
                    refine q (by first | exact bAddi rfl rfl (by omega) | exact bAdd rfl rfl) ?_
                    refine q (asg rfl) ?_
                    refine enD ?_
                    refine dSub (lb' ++ (la' ++ l)) (fun a => by simp only [cnt_append, cnt_cons, cnt_nil]; omega) ?_
                    refine dLp (m' := n - (i + 1)) (e' := [(0, .slice (some ⟨b0, o, none⟩) n cap), (1, .slice (some ⟨bo, oo, none⟩) no capo), (5, .pointer (some ⟨a, 0, none⟩)), (6, .pointer (some ⟨b, 0, none⟩)), (7, .int .i64 (i + 1 : Nat))]) (by omega) (by repeat first | exact Sub.nil | refine Sub.cons rfl ?_) ?_
                    exact ⟨i + 1, _, _, la', lb', hA', hB', rfl, rfl, rfl, by omega, OA.does hxo, OB.does hyo, hq.2⟩
            · refine gF rfl rfl rfl ?_
              refine gF rfl rfl rfl ?_
              refine gF rfl rfl rfl ?_
              refine gF rfl rfl rfl ?_
              refine gF rfl rfl rfl ?_
              refine gF rfl rfl rfl ?_
              refine q (by first | exact pkT rfl rfl | exact pkF rfl rfl) ?_
              refine en ?_
              refine ifF rfl ?_
              refine skp (dSq ?_)
              refine seq ?_
              refine seq ?_
              refine reg ?_
              refine q (fa fo44_0 rfl) ?_
              refine q (ld na5 rfl (by first | exact mR (by assumption) | repeat (first | assumption | exact m0 | apply mS | apply mA)) (by first | rfl | assumption)) ?_
              refine q (bEql rfl rfl) ?_
              refine en ?_
              refine ifd rfl (fun h4 => ?_) (fun h4 => ?_)
              · exact absurd h4 (by omega)
              · refine skp (dSq ?_)
                refine seq ?_
                refine reg ?_
                refine q (mv rfl) ?_
                refine q (ldA ag44 rfl (by first | exact mR (by assumption) | repeat (first | assumption | exact m0 | apply mS | apply mA)) (by first | assumption | repeat constructor)) ?_
                refine clQ fb25 rfl la ((b2, .cells (List.toArray [.int .u8 x.k, .string x.a, .string ⟨#[122]⟩, .int .i64 x.n, .slice pk nk capk, .slice pt nt capt]) 44 (0, 0)) :: (b1, .cells (List.toArray [.int .u8 x.k, .string x.a, .string x.b, .int .i64 x.n, .slice pk nk capk, .slice pt nt capt]) 44 (0, 0)) :: (lb ++ l)) (fun a => by simp only [cnt_append, cnt_cons, cnt_nil]; omega) (dDoes hA OA (by omega) hxo (hv.mono fun b o h => .inl h)) ?_
                rintro _ la' ⟨rfl, hA'⟩
                refine q (mv rfl) ?_
                refine q (ext rfl rfl) ?_
                refine q (ext rfl rfl) ?_
                refine q (asg rfl) ?_
                refine q (asg rfl) ?_
                refine en ?_
                refine seq ?_
                refine reg ?_
                refine q (mv rfl) ?_
                refine q (ldA ag44 rfl (by first | exact mR (by assumption) | repeat (first | assumption | exact m0 | apply mS | apply mA)) (by first | assumption | repeat constructor)) ?_
                have hvy : ActV R { x with b := ⟨#[122]⟩ } [.int .u8 x.k, .string x.a, .string ⟨#[122]⟩, .int .i64 x.n, .slice pk nk capk, .slice pt nt capt] := ⟨_, _, rfl, hks, hts⟩
                have hyo : AOk { x with b := ⟨#[122]⟩ } := ⟨hxo.a, by show (1 : Nat) ≤ 20000; decide, hxo.n, hxo.keep, hxo.torn, hxo.tornI⟩
                refine clQ fb25 rfl lb (la' ++ ((b2, .cells (List.toArray [.int .u8 x.k, .string x.a, .string ⟨#[122]⟩, .int .i64 x.n, .slice pk nk capk, .slice pt nt capt]) 44 (0, 0)) :: (b1, .cells (List.toArray [.int .u8 x.k, .string x.a, .string x.b, .int .i64 x.n, .slice pk nk capk, .slice pt nt capt]) 44 (0, 0)) :: l)) (fun a => by simp only [cnt_append, cnt_cons, cnt_nil]; omega) (dDoes hB OB (by omega) hyo (hvy.mono fun b o h => .inl h)) ?_
                rintro _ lb' ⟨rfl, hB'⟩
                have hq := hE.does (x := x) (y := { x with b := ⟨#[122]⟩ }) ⟨rfl, rfl, rfl, rfl, rfl, fun h => absurd hk0 h, by simp [hb0]⟩ h4
                refine q (mv rfl) ?_
                refine q (ext rfl rfl) ?_
                refine q (ext rfl rfl) ?_
                refine q (asg rfl) ?_
                refine q (asg rfl) ?_
                refine en ?_
                refine seq ?_
                refine reg ?_
                refine q (mv rfl) ?_
                refine q (mv rfl) ?_
                refine q (bNeq rfl rfl) ?_
                refine en ?_
                refine ifd rfl (fun h5 => ?_) (fun h5 => ?_)
                · exact absurd hq.1 h5
                · refine skp (dBn (dSq ?_))
                  refine reg ?_
                  refine q (mv rfl) ?_
                  refine q (by first | exact bAddi rfl rfl (by omega) | exact bAdd rfl rfl) ?_
                  refine q (asg rfl) ?_
                  refine enD ?_
                  refine dSub (lb' ++ (la' ++ l)) (fun a => by simp only [cnt_append, cnt_cons, cnt_nil]; omega) ?_
                  refine dLp (m' := n - (i + 1)) (e' := [(0, .slice (some ⟨b0, o, none⟩) n cap), (1, .slice (some ⟨bo, oo, none⟩) no capo), (5, .pointer (some ⟨a, 0, none⟩)), (6, .pointer (some ⟨b, 0, none⟩)), (7, .int .i64 (i + 1 : Nat))]) (by omega) (by repeat first | exact Sub.nil | refine Sub.cons rfl ?_) ?_
                  exact ⟨i + 1, _, _, la', lb', hA', hB', rfl, rfl, rfl, by omega, OA.does hxo, OB.does hyo, hq.2⟩
          · refine gF rfl rfl rfl ?_
            refine gF rfl rfl rfl ?_
            refine gF rfl rfl rfl ?_
            refine gF rfl rfl rfl ?_
            refine gF rfl rfl rfl ?_
            refine q (by first | exact pkT rfl rfl | exact pkF rfl rfl) ?_
            refine q (mv rfl) ?_
            refine gF rfl rfl rfl ?_
            refine gF rfl rfl rfl ?_
            refine gF rfl rfl rfl ?_
            refine gF rfl rfl rfl ?_
            refine gF rfl rfl rfl ?_
            refine gF rfl rfl rfl ?_
            refine q (by first | exact pkT rfl rfl | exact pkF rfl rfl) ?_
            refine en ?_
            refine ifF rfl ?_
            refine skp (dSq ?_)
            refine seq ?_
            refine seq ?_
            refine reg ?_
            refine q (fa fo44_0 rfl) ?_
            refine q (ld na5 rfl (by first | exact mR (by assumption) | repeat (first | assumption | exact m0 | apply mS | apply mA)) (by first | rfl | assumption)) ?_
            refine q (bEql rfl rfl) ?_
            refine en ?_
            refine ifd rfl (fun h4 => ?_) (fun h4 => ?_)
            · exact absurd h4 (by omega)
            · refine skp (dSq ?_)
              refine seq ?_
              refine reg ?_
              refine q (mv rfl) ?_
              refine q (ldA ag44 rfl (by first | exact mR (by assumption) | repeat (first | assumption | exact m0 | apply mS | apply mA)) (by first | assumption | repeat constructor)) ?_
              refine clQ fb25 rfl la ((b2, .cells (List.toArray [.int .u8 x.k, .string x.a, .string ⟨#[122]⟩, .int .i64 x.n, .slice pk nk capk, .slice pt nt capt]) 44 (0, 0)) :: (b1, .cells (List.toArray [.int .u8 x.k, .string x.a, .string x.b, .int .i64 x.n, .slice pk nk capk, .slice pt nt capt]) 44 (0, 0)) :: (lb ++ l)) (fun a => by simp only [cnt_append, cnt_cons, cnt_nil]; omega) (dDoes hA OA (by omega) hxo (hv.mono fun b o h => .inl h)) ?_
              rintro _ la' ⟨rfl, hA'⟩
              refine q (mv rfl) ?_
              refine q (ext rfl rfl) ?_
              refine q (ext rfl rfl) ?_
              refine q (asg rfl) ?_
              refine q (asg rfl) ?_
              refine en ?_
              refine seq ?_
              refine reg ?_
              refine q (mv rfl) ?_
              refine q (ldA ag44 rfl (by first | exact mR (by assumption) | repeat (first | assumption | exact m0 | apply mS | apply mA)) (by first | assumption | repeat constructor)) ?_
              have hvy : ActV R { x with b := ⟨#[122]⟩ } [.int .u8 x.k, .string x.a, .string ⟨#[122]⟩, .int .i64 x.n, .slice pk nk capk, .slice pt nt capt] := ⟨_, _, rfl, hks, hts⟩
              have hyo : AOk { x with b := ⟨#[122]⟩ } := ⟨hxo.a, by show (1 : Nat) ≤ 20000; decide, hxo.n, hxo.keep, hxo.torn, hxo.tornI⟩
              refine clQ fb25 rfl lb (la' ++ ((b2, .cells (List.toArray [.int .u8 x.k, .string x.a, .string ⟨#[122]⟩, .int .i64 x.n, .slice pk nk capk, .slice pt nt capt]) 44 (0, 0)) :: (b1, .cells (List.toArray [.int .u8 x.k, .string x.a, .string x.b, .int .i64 x.n, .slice pk nk capk, .slice pt nt capt]) 44 (0, 0)) :: l)) (fun a => by simp only [cnt_append, cnt_cons, cnt_nil]; omega) (dDoes hB OB (by omega) hyo (hvy.mono fun b o h => .inl h)) ?_
              rintro _ lb' ⟨rfl, hB'⟩
              have hq := hE.does (x := x) (y := { x with b := ⟨#[122]⟩ }) ⟨rfl, rfl, rfl, rfl, rfl, fun h => absurd hk0 h, by simp [hb0]⟩ h4
              refine q (mv rfl) ?_
              refine q (ext rfl rfl) ?_
              refine q (ext rfl rfl) ?_
              refine q (asg rfl) ?_
              refine q (asg rfl) ?_
              refine en ?_
              refine seq ?_
              refine reg ?_
              refine q (mv rfl) ?_
              refine q (mv rfl) ?_
              refine q (bNeq rfl rfl) ?_
              refine en ?_
              refine ifd rfl (fun h5 => ?_) (fun h5 => ?_)
              · exact absurd hq.1 h5
              · refine skp (dBn (dSq ?_))
                refine reg ?_
                refine q (mv rfl) ?_
                refine q (by first | exact bAddi rfl rfl (by omega) | exact bAdd rfl rfl) ?_
                refine q (asg rfl) ?_
                refine enD ?_
                refine dSub (lb' ++ (la' ++ l)) (fun a => by simp only [cnt_append, cnt_cons, cnt_nil]; omega) ?_
                refine dLp (m' := n - (i + 1)) (e' := [(0, .slice (some ⟨b0, o, none⟩) n cap), (1, .slice po no capo), (5, .pointer (some ⟨a, 0, none⟩)), (6, .pointer (some ⟨b, 0, none⟩)), (7, .int .i64 (i + 1 : Nat))]) (by omega) (by repeat first | exact Sub.nil | refine Sub.cons rfl ?_) ?_
                exact ⟨i + 1, _, _, la', lb', hA', hB', rfl, rfl, rfl, by omega, OA.does hxo, OB.does hyo, hq.2⟩
        · refine skp (dSq ?_)
          refine seq ?_
          refine seq ?_
          refine reg ?_
          refine q (fa fo44_0 rfl) ?_
          refine q (ld na5 rfl (by first | exact mR (by assumption) | repeat (first | assumption | exact m0 | apply mS | apply mA)) (by first | rfl | assumption)) ?_
          refine q (bEql rfl rfl) ?_
          refine en ?_
          refine ifd rfl (fun h4 => ?_) (fun h4 => ?_)
          · exact absurd h4 (by omega)
          · refine skp (dSq ?_)
            refine seq ?_
            refine reg ?_
            refine q (mv rfl) ?_
            refine q (ldA ag44 rfl (by first | exact mR (by assumption) | repeat (first | assumption | exact m0 | apply mS | apply mA)) (by first | assumption | repeat constructor)) ?_
            refine clQ fb25 rfl la ((b2, .cells (List.toArray [.int .u8 x.k, .string x.a, .string x.b, .int .i64 x.n, .slice pk nk capk, .slice pt nt capt]) 44 (0, 0)) :: (b1, .cells (List.toArray [.int .u8 x.k, .string x.a, .string x.b, .int .i64 x.n, .slice pk nk capk, .slice pt nt capt]) 44 (0, 0)) :: (lb ++ l)) (fun a => by simp only [cnt_append, cnt_cons, cnt_nil]; omega) (dDoes hA OA (by omega) hxo (hv.mono fun b o h => .inl h)) ?_
            rintro _ la' ⟨rfl, hA'⟩
            refine q (mv rfl) ?_
            refine q (ext rfl rfl) ?_
            refine q (ext rfl rfl) ?_
            refine q (asg rfl) ?_
            refine q (asg rfl) ?_
            refine en ?_
            refine seq ?_
            refine reg ?_
            refine q (mv rfl) ?_
            refine q (ldA ag44 rfl (by first | exact mR (by assumption) | repeat (first | assumption | exact m0 | apply mS | apply mA)) (by first | assumption | repeat constructor)) ?_
            have hvy : ActV R x [.int .u8 x.k, .string x.a, .string x.b, .int .i64 x.n, .slice pk nk capk, .slice pt nt capt] := hv
            have hyo : AOk x := hxo
            refine clQ fb25 rfl lb (la' ++ ((b2, .cells (List.toArray [.int .u8 x.k, .string x.a, .string x.b, .int .i64 x.n, .slice pk nk capk, .slice pt nt capt]) 44 (0, 0)) :: (b1, .cells (List.toArray [.int .u8 x.k, .string x.a, .string x.b, .int .i64 x.n, .slice pk nk capk, .slice pt nt capt]) 44 (0, 0)) :: l)) (fun a => by simp only [cnt_append, cnt_cons, cnt_nil]; omega) (dDoes hB OB (by omega) hyo (hvy.mono fun b o h => .inl h)) ?_
            rintro _ lb' ⟨rfl, hB'⟩
            have hq := hE.does (x := x) (y := x) ⟨rfl, rfl, rfl, rfl, rfl, fun _ => rfl, rfl⟩ h4
            refine q (mv rfl) ?_
            refine q (ext rfl rfl) ?_
            refine q (ext rfl rfl) ?_
            refine q (asg rfl) ?_
            refine q (asg rfl) ?_
            refine en ?_
            refine seq ?_
            refine reg ?_
            refine q (mv rfl) ?_
            refine q (mv rfl) ?_
            refine q (bNeq rfl rfl) ?_
            refine en ?_
            refine ifd rfl (fun h5 => ?_) (fun h5 => ?_)
            · exact absurd hq.1 h5
            · refine skp (dBn (dSq ?_))
              refine reg ?_
              refine q (mv rfl) ?_
              refine q (by first | exact bAddi rfl rfl (by omega) | exact bAdd rfl rfl) ?_
              refine q (asg rfl) ?_
              refine enD ?_
              refine dSub (lb' ++ (la' ++ l)) (fun a => by simp only [cnt_append, cnt_cons, cnt_nil]; omega) ?_
              refine dLp (m' := n - (i + 1)) (e' := [(0, .slice (some ⟨b0, o, none⟩) n cap), (1, .slice po no capo), (5, .pointer (some ⟨a, 0, none⟩)), (6, .pointer (some ⟨b, 0, none⟩)), (7, .int .i64 (i + 1 : Nat))]) (by omega) (by repeat first | exact Sub.nil | refine Sub.cons rfl ?_) ?_
              exact ⟨i + 1, _, _, la', lb', hA', hB', rfl, rfl, rfl, by omega, OA.does hxo, OB.does hyo, hq.2⟩
      · refine gF rfl rfl rfl ?_
        refine gF rfl rfl rfl ?_
        refine gF rfl rfl rfl ?_
        refine q (by first | exact pkT rfl rfl | exact pkF rfl rfl) ?_
        refine en ?_
        refine ifF rfl ?_
        refine skp (dSq ?_)
        refine seq ?_
        refine seq ?_
        refine reg ?_
        refine q (fa fo44_0 rfl) ?_
        refine q (ld na5 rfl (by first | exact mR (by assumption) | repeat (first | assumption | exact m0 | apply mS | apply mA)) (by first | rfl | assumption)) ?_
        refine q (bEql rfl rfl) ?_
        refine en ?_
        refine ifd rfl (fun h4 => ?_) (fun h4 => ?_)
        · refine exi (dSe (dBe (dSq ?_)))
          refine reg ?_
          refine q (mv rfl) ?_
          refine q (by first | exact bAddi rfl rfl (by omega) | exact bAdd rfl rfl) ?_
          refine q (asg rfl) ?_
          refine enD ?_
          refine dSub (lb ++ (la ++ l)) (fun a => by simp only [cnt_append, cnt_cons, cnt_nil]; omega) ?_
          refine dLp (m' := n - (i + 1)) (e' := [(0, .slice (some ⟨b0, o, none⟩) n cap), (1, .slice po no capo), (5, .pointer (some ⟨a, 0, none⟩)), (6, .pointer (some ⟨b, 0, none⟩)), (7, .int .i64 (i + 1 : Nat))]) (by omega) (by repeat first | exact Sub.nil | refine Sub.cons rfl ?_) ?_
          exact ⟨i + 1, A, B, la, lb, hA, hB, rfl, rfl, rfl, by omega, OA.mono (by omega), OB.mono (by omega), hE⟩
        · refine skp (dSq ?_)
          refine seq ?_
          refine reg ?_
          refine q (mv rfl) ?_
          refine q (ldA ag44 rfl (by first | exact mR (by assumption) | repeat (first | assumption | exact m0 | apply mS | apply mA)) (by first | assumption | repeat constructor)) ?_
          refine clQ fb25 rfl la ((b2, .cells (List.toArray [.int .u8 x.k, .string x.a, .string x.b, .int .i64 x.n, .slice pk nk capk, .slice pt nt capt]) 44 (0, 0)) :: (b1, .cells (List.toArray [.int .u8 x.k, .string x.a, .string x.b, .int .i64 x.n, .slice pk nk capk, .slice pt nt capt]) 44 (0, 0)) :: (lb ++ l)) (fun a => by simp only [cnt_append, cnt_cons, cnt_nil]; omega) (dDoes hA OA (by omega) hxo (hv.mono fun b o h => .inl h)) ?_
          rintro _ la' ⟨rfl, hA'⟩
          refine q (mv rfl) ?_
          refine q (ext rfl rfl) ?_
          refine q (ext rfl rfl) ?_
          refine q (asg rfl) ?_
          refine q (asg rfl) ?_
          refine en ?_
          refine seq ?_
          refine reg ?_
          refine q (mv rfl) ?_
          refine q (ldA ag44 rfl (by first | exact mR (by assumption) | repeat (first | assumption | exact m0 | apply mS | apply mA)) (by first | assumption | repeat constructor)) ?_
          have hvy : ActV R x [.int .u8 x.k, .string x.a, .string x.b, .int .i64 x.n, .slice pk nk capk, .slice pt nt capt] := hv
          have hyo : AOk x := hxo
          refine clQ fb25 rfl lb (la' ++ ((b2, .cells (List.toArray [.int .u8 x.k, .string x.a, .string x.b, .int .i64 x.n, .slice pk nk capk, .slice pt nt capt]) 44 (0, 0)) :: (b1, .cells (List.toArray [.int .u8 x.k, .string x.a, .string x.b, .int .i64 x.n, .slice pk nk capk, .slice pt nt capt]) 44 (0, 0)) :: l)) (fun a => by simp only [cnt_append, cnt_cons, cnt_nil]; omega) (dDoes hB OB (by omega) hyo (hvy.mono fun b o h => .inl h)) ?_
          rintro _ lb' ⟨rfl, hB'⟩
          have hq := hE.does (x := x) (y := x) ⟨rfl, rfl, rfl, rfl, rfl, fun _ => rfl, rfl⟩ h4
          refine q (mv rfl) ?_
          refine q (ext rfl rfl) ?_
          refine q (ext rfl rfl) ?_
          refine q (asg rfl) ?_
          refine q (asg rfl) ?_
          refine en ?_
          refine seq ?_
          refine reg ?_
          refine q (mv rfl) ?_
          refine q (mv rfl) ?_
          refine q (bNeq rfl rfl) ?_
          refine en ?_
          refine ifd rfl (fun h5 => ?_) (fun h5 => ?_)
          · exact absurd hq.1 h5
          · refine skp (dBn (dSq ?_))
            refine reg ?_
            refine q (mv rfl) ?_
            refine q (by first | exact bAddi rfl rfl (by omega) | exact bAdd rfl rfl) ?_
            refine q (asg rfl) ?_
            refine enD ?_
            refine dSub (lb' ++ (la' ++ l)) (fun a => by simp only [cnt_append, cnt_cons, cnt_nil]; omega) ?_
            refine dLp (m' := n - (i + 1)) (e' := [(0, .slice (some ⟨b0, o, none⟩) n cap), (1, .slice po no capo), (5, .pointer (some ⟨a, 0, none⟩)), (6, .pointer (some ⟨b, 0, none⟩)), (7, .int .i64 (i + 1 : Nat))]) (by omega) (by repeat first | exact Sub.nil | refine Sub.cons rfl ?_) ?_
            exact ⟨i + 1, _, _, la', lb', hA', hB', rfl, rfl, rfl, by omega, OA.does hxo, OB.does hyo, hq.2⟩
    · have OA' := OA.mono (show i ≤ 100 by omega)
      have OB' := OB.mono (show i ≤ 100 by omega)
      have hnm := hE.names
      have hlen : (names A).length ≤ 100 := by have := OA.len; simp only [names, List.length_map]; omega
      refine exi (dSe (dLe (dBe (dSq ?_))))
      refine seq ?_
      refine reg ?_
      refine q (mv rfl) ?_
      refine clQ fb20 rfl la (lb ++ l) (fun a => by simp only [cnt_append, cnt_cons, cnt_nil]; omega) (dListD hA OA' (by omega)) ?_
      rintro _ _ ⟨pa, capa, bka, rfl, hsa, rfl⟩
      refine q (asg rfl) ?_
      refine en ?_
      refine seq ?_
      refine reg ?_
      refine q (mv rfl) ?_
      refine clQ fb20 rfl lb (bka ++ la ++ l) (fun a => by simp only [cnt_append, cnt_cons, cnt_nil]; omega) (dListD hB OB' (by omega)) ?_
      rintro _ _ ⟨pb, capb, bkb, rfl, hsb, rfl⟩
      rw [← hnm] at hsb ⊢
      refine q (asg rfl) ?_
      refine en ?_
      refine seq ?_
      refine seq ?_
      refine reg ?_
      refine q (mv rfl) ?_
      refine q (lnL Try.underlying33 rfl) ?_
      refine q (mv rfl) ?_
      refine q (lnL Try.underlying33 rfl) ?_
      refine q (bNeq rfl rfl) ?_
      refine q (mv rfl) ?_
      refine decd (t := 97) rfl (fun h1' => ?_) (fun h1' => ?_)
      · exact absurd rfl h1'
      · refine gT rfl rfl ?_
        refine q (mv rfl) ?_
        refine gT rfl rfl ?_
        refine clR fb26 rfl la (bka ++ bkb ++ lb ++ l) (fun a => by simp only [cnt_append, cnt_cons, cnt_nil]; omega) (dDownD hA) ?_
        refine gT rfl rfl ?_
        refine q (mv rfl) ?_
        refine gT rfl rfl ?_
        refine clR fb26 rfl lb (bka ++ bkb ++ la ++ l) (fun a => by simp only [cnt_append, cnt_cons, cnt_nil]; omega) (hE.off ▸ dDownD hB) ?_
        refine gT rfl rfl ?_
        refine q (neS rfl rfl rfl (fun w => run_eqb Try.underlying4 w)) ?_
        refine q (by first | exact pkT rfl rfl | exact pkF rfl rfl) ?_
        refine q (mv rfl) ?_
        refine dec (t := 104) rfl (fun h2' => ?_) (fun h2' => ?_)
        · simp at h2'
        · refine gT rfl rfl ?_
          refine q (mv rfl) ?_
          refine gT rfl rfl ?_
          refine clR fb27 rfl la (bka ++ bkb ++ lb ++ l) (fun a => by simp only [cnt_append, cnt_cons, cnt_nil]; omega) (dFusedD hA) ?_
          refine gT rfl rfl ?_
          refine q (mv rfl) ?_
          refine gT rfl rfl ?_
          refine clR fb27 rfl lb (bka ++ bkb ++ la ++ l) (fun a => by simp only [cnt_append, cnt_cons, cnt_nil]; omega) (hE.fuse ▸ dFusedD hB) ?_
          refine gT rfl rfl ?_
          refine q (bNeq rfl rfl) ?_
          refine q (by first | exact pkT rfl rfl | exact pkF rfl rfl) ?_
          refine en ?_
          refine ifd rfl (fun h3' => ?_) (fun h3' => ?_)
          · exact absurd rfl h3'
          · refine skp (dSq ?_)
            refine seq ?_
            refine seq ?_
            refine reg ?_
            refine q (asg rfl) ?_
            refine en ?_
            refine blk ?_
            refine cSub (e' := [(5, .pointer (some ⟨a, 0, none⟩)), (6, .pointer (some ⟨b, 0, none⟩)), (14, .slice pa (names A).length capa), (15, .slice pb (names A).length capb), (16, .int .i64 (0 : Nat))]) (by repeat first | exact Sub.nil | refine Sub.cons rfl ?_) ?_
            refine cPerm (l' := bka ++ (bkb ++ (la ++ (lb ++ l)))) (permC (fun a => by simp only [cnt_append, cnt_cons, cnt_nil]; omega)) ?_
            refine loop (fun m' e l' => ∃ i : Nat, l' = bka ++ (bkb ++ (la ++ (lb ++ l))) ∧ e = [(5, .pointer (some ⟨a, 0, none⟩)), (6, .pointer (some ⟨b, 0, none⟩)), (14, .slice pa (names A).length capa), (15, .slice pb (names A).length capb), (16, .int .i64 i)] ∧ m' = (names A).length - i ∧ i ≤ (names A).length) (names A).length ⟨0, rfl, rfl, rfl, Nat.zero_le _⟩ ?_
            rintro m' _ _ ⟨i, rfl, rfl, rfl, hi⟩
            refine seq ?_
            refine seq ?_
            refine reg ?_
            refine q (mv rfl) ?_
            refine q (mv rfl) ?_
            refine q (lnL Try.underlying33 rfl) ?_
            refine q (bLss rfl rfl) ?_
            refine en ?_
            refine ifd rfl (fun h => ?_) (fun h => ?_)
            · have hin : i < (names A).length := by omega
              obtain ⟨n, hn⟩ : ∃ n, (names A)[i]? = some n := ⟨_, List.getElem?_eq_getElem hin⟩
              obtain ⟨bA, oA, csA, rfl, _, rfl, hvA⟩ := hsa.toI.at1 (i := i) (v := .string n) (by rw [List.getElem?_map, hn]; rfl)
              obtain ⟨bB, oB, csB, rfl, _, rfl, hvB⟩ := hsb.toI.at1 (i := i) (v := .string n) (by rw [List.getElem?_map, hn]; rfl)
              obtain ⟨⟨r1, r2⟩, hr⟩ : ∃ r, records A n = r := ⟨_, rfl⟩
              have hr' : records B n = (r1, r2) := by rw [← hE.records]; exact hr
              refine skp (dSq ?_)
              refine seq ?_
              refine blk ?_
              refine seq ?_
              refine reg ?_
              refine q (mv rfl) ?_
              refine q (mv rfl) ?_
              refine q (mv rfl) ?_
              refine q (ia Try.underlying33 sz9 rfl rfl (by omega) (by omega)) ?_
              refine q (ld na9 rfl (by first | exact mR (by assumption) | repeat (first | assumption | exact m0 | apply mS | apply mA)) (by first | rfl | assumption)) ?_
              refine clR fb23 rfl la ([(bA, .cells (List.toArray csA) 9 (0, 0))] ++ [(bB, .cells (List.toArray csB) 9 (0, 0))] ++ lb ++ l) (fun a => by simp only [cnt_append, cnt_cons, cnt_nil]; omega) (dRecordsK hA OA' (by omega) hr) ?_
              refine q (mv rfl) ?_
              refine q (ext rfl rfl) ?_
              refine q (ext rfl rfl) ?_
              refine q (asg rfl) ?_
              refine q (asg rfl) ?_
              refine en ?_
              refine seq ?_
              refine reg ?_
              refine q (mv rfl) ?_
              refine q (mv rfl) ?_
              refine q (mv rfl) ?_
              refine q (ia Try.underlying33 sz9 rfl rfl (by omega) (by omega)) ?_
              refine q (ld na9 rfl (by first | exact mR (by assumption) | repeat (first | assumption | exact m0 | apply mS | apply mA)) (by first | rfl | assumption)) ?_
              refine clR fb23 rfl lb ([(bA, .cells (List.toArray csA) 9 (0, 0))] ++ [(bB, .cells (List.toArray csB) 9 (0, 0))] ++ la ++ l) (fun a => by simp only [cnt_append, cnt_cons, cnt_nil]; omega) (dRecordsK hB OB' (by omega) hr') ?_
              refine q (mv rfl) ?_
              refine q (ext rfl rfl) ?_
              refine q (ext rfl rfl) ?_
              refine q (asg rfl) ?_
              refine q (asg rfl) ?_
              refine en ?_
              refine seq ?_
              refine drw (by kernel_rfl) [(.q, 0), (.q, 1), (.q, 2), (.q, 3), (.q, 4), (.q, 5), (.q, 6), (.q, 7), (.q, 8), (.q, 9), (.q, 10), (.q, 11), (.q, 12), (.q, 13), (.q, 14), (.q, 15), (.q, 16), (.q, 17), (.q, 18)] _ rfl (by kernel_rfl) (by kernel_rfl) trivial ?_
              refine xq rfl (mv rfl) ?_
              refine xq rfl (mv rfl) ?_
              refine xq rfl (ia Try.underlying33 sz9 rfl rfl (by omega) (by omega)) ?_
              refine xq rfl (ld na9 rfl (by first | exact mR (by assumption) | repeat (first | assumption | exact m0 | apply mS | apply mA)) (by first | rfl | assumption)) ?_
              refine xq rfl (mv rfl) ?_
              refine xq rfl (mv rfl) ?_
              refine xq rfl (ia Try.underlying33 sz9 rfl rfl (by omega) (by omega)) ?_
              refine xq rfl (ld na9 rfl (by first | exact mR (by assumption) | repeat (first | assumption | exact m0 | apply mS | apply mA)) (by first | rfl | assumption)) ?_
              refine xq rfl (sNeq rfl rfl) ?_
              refine xq rfl (mv rfl) ?_
              refine xdecd (t := 144) rfl (fun t1 => ?_) (fun t1 => ?_)
              · exact absurd rfl t1
              · refine xgT rfl rfl rfl (mv rfl) ?_
                refine xgT rfl rfl rfl (mv rfl) ?_
                refine xgT rfl rfl rfl (bNeq rfl rfl) ?_
                refine xq rfl ((by first | exact pkT rfl rfl | exact pkF rfl rfl)) ?_
                refine xq rfl (mv rfl) ?_
                refine xdecd (t := 149) rfl (fun t2 => ?_) (fun t2 => ?_)
                · exact absurd rfl t2
                · refine xgT rfl rfl rfl (mv rfl) ?_
                  refine xgT rfl rfl rfl (mv rfl) ?_
                  refine xgT rfl rfl rfl (bNeq rfl rfl) ?_
                  refine xq rfl ((by first | exact pkT rfl rfl | exact pkF rfl rfl)) ?_
                  refine dSq ?_
                  refine ifd rfl (fun t3 => ?_) (fun t3 => ?_)
                  · exact absurd rfl t3
                  · refine skp (dBn (dSq ?_))
                    refine reg ?_
                    refine q (mv rfl) ?_
                    refine q (by first | exact bAddi rfl rfl (by omega) | exact bAdd rfl rfl) ?_
                    refine q (asg rfl) ?_
                    refine enD ?_
                    refine dLp (m' := (names A).length - (i + 1)) (e' := [(5, .pointer (some ⟨a, 0, none⟩)), (6, .pointer (some ⟨b, 0, none⟩)), (14, .slice (some ⟨bA, oA, none⟩) (names A).length capa), (15, .slice (some ⟨bB, oB, none⟩) (names A).length capb), (16, .int .i64 (i + 1 : Nat))]) (by omega) (by repeat first | exact Sub.nil | refine Sub.cons rfl ?_) ?_
                    exact ⟨i + 1, rfl, rfl, rfl, by omega⟩
            · refine exi (dSe (dLe (dBe (dSq ?_))))
              refine seq ?_
              refine reg ?_
              refine cl fb14 rfl (dAwake) ?_
              rintro _ l9 ⟨rfl, hl9⟩
              rw [hl9]
              refine q (asg rfl) ?_
              refine en ?_
              refine ret ?_
              exact finQ l rfl rfl (fun a => by simp only [cnt_append, cnt_cons, cnt_nil]; omega) ⟨rfl, rfl⟩
end Go.Proofs.Ytoecfgldnlglnaa

