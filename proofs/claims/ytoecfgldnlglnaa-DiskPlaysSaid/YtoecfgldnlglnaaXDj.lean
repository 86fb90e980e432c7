import Derived.Test.YtoecfgldnlglnaaXDi
set_option linter.unusedVariables false
set_option linter.unusedSimpArgs false
set_option maxRecDepth 20000
namespace Go.Wk
open Go
section
variable {c : Cx} {ops : Array Oper} {Q : Ps} {rest : List Oper} {e : Env} {l : Bl} {ty : TypeId} {pos : String} {aft : Array Edge} {d : Nat} {xs : List Operand} {ts : Array TypeId} {vs : List Value} {f : FuncId}
/-- A call that changes nothing. -/
theorem clR {u : Value} (hf : Fb c.P f) (hx : evl e xs = some vs) (l₁ F : Bl) (p : ∀ a, cnt a l = cnt a (l₁ ++ F)) (ht : Tri c.P f vs (fun b o => c.R b o ∨ (b, o) ∈ F) l₁ fun v l' => v = u ∧ l' = l₁)
    (h : Wo c ops Q rest ((d, u) :: e) l) : Wo c ops Q (⟨some d, .call ⟨.value (.func f), xs.toArray, ts⟩, ty, pos, aft, none⟩ :: rest) e l :=
  clP hf hx (permC p) ht fun v l' hS => by
    obtain ⟨h1, h2⟩ := hS
    rw [h1, h2]
    exact oPerm (permC fun a => (p a).symm) h
end
end Go.Wk
namespace Go.Proofs.Ytoecfgldnlglnaa
open Go Go.Wk Go.Wk.Dsk

theorem ActV.mono {R R' : Rd} {x cs} (h : ∀ b o, R b o → R' b o) (hv : ActV R x cs) : ActV R' x cs := by
  obtain ⟨sk, st, e, h1, h2⟩ := hv
  exact ⟨sk, st, e, h1.mono h, h2.mono h⟩
theorem ActsV.mono {R R' : Rd} {v l} (h : ∀ b o, R b o → R' b o) (hv : ActsV R v l) : ActsV R' v l := by
  obtain ⟨p, n, cap, css, e, h1, h2, h3, h4⟩ := hv
  exact ⟨p, n, cap, css, e, h1, h2, fun i x cs a b => (h3 i x cs a b).mono h, h4.mono h⟩
theorem dPlays {R l d D K v acts} (hA : ActsV R v acts) (hs : ∀ x ∈ acts, AOk x) (hD : IsD d D l) (hO : DOk K D) (hK : K + acts.length ≤ 900) :
    Tri Try.prog 16 [.pointer (some ⟨d, 0, none⟩), v] R l fun v l' => v = .tuple #[] ∧ IsD d (plays D acts) l' := by
  have h' := hA
  obtain ⟨p, n, cap, _, rfl, _, hn, _⟩ := h'
  refine enter Try.func16 rfl rfl (by kernel_rfl) rfl fun w0 => ?_
  refine seq ?_
  refine reg ?_
  refine q (asg rfl) ?_
  refine en ?_
  refine blk ?_
  refine cSub (e' := [(0, .pointer (some ⟨d, 0, none⟩)), (1, .slice p n cap), (4, .int .i64 (0 : Nat))]) (by repeat first | exact Sub.nil | refine Sub.cons rfl ?_) ?_
  refine loop (fun m' e l' => ∃ (i : Nat) (D' : DM), IsD d D' l' ∧ e = [(0, .pointer (some ⟨d, 0, none⟩)), (1, .slice p n cap), (4, .int .i64 i)] ∧ m' = n - i ∧ i ≤ n ∧ DOk (K + i) D' ∧ plays D (acts.take i) = D') n ⟨0, D, hD, rfl, rfl, Nat.zero_le _, hO, by simp [plays]⟩ ?_
  rintro m' _ l' ⟨i, D', hD', rfl, rfl, hi, hO', hpl⟩
  refine seq ?_
  refine seq ?_
  refine reg ?_
  refine q (mv rfl) ?_
  refine q (mv rfl) ?_
  refine q (lnL Try.underlying22 rfl) ?_
  refine q (bLss rfl rfl) ?_
  refine en ?_
  refine ifd rfl (fun h => ?_) (fun h => ?_)
  · have hin : i < n := by omega
    obtain ⟨x, b, o, cs, E, fz, vs, hx, rfl, hR, hv, hj, hT⟩ := hA.at hin
    refine skp (dSq ?_)
    refine seq ?_
    refine blk ?_
    refine reg ?_
    refine q (mv rfl) ?_
    refine q (mv rfl) ?_
    refine q (mv rfl) ?_
    refine q (ia Try.underlying22 sz44 rfl rfl (by omega) (by omega)) ?_
    refine q (ldA ag44 rfl (by first | exact mR (by assumption) | repeat (first | assumption | exact m0 | apply mS | apply mA)) (by first | assumption | repeat constructor)) ?_
    refine cl fb25 rfl ((dDoes hD' hO' (by omega) (hs x (List.mem_of_getElem? hx)) hv)) ?_
    rintro _ l2 ⟨rfl, hS⟩
    refine enD (dBn (dSq ?_))
    refine reg ?_
    refine q (mv rfl) ?_
    refine q (by first | exact bAddi rfl rfl (by omega) | exact bAdd rfl rfl) ?_
    refine q (asg rfl) ?_
    refine enD ?_
    refine dLp (m' := n - (i + 1)) (e' := [(0, .pointer (some ⟨d, 0, none⟩)), (1, .slice (some ⟨b, o, none⟩) n cap), (4, .int .i64 (i + 1 : Nat))]) (by omega) (by repeat first | exact Sub.nil | refine Sub.cons rfl ?_) ?_
    refine ⟨i + 1, _, hS, rfl, rfl, by omega, hO'.does (hs x (List.mem_of_getElem? hx)), ?_⟩
    rw [List.take_add_one, hx, ← hpl]
    simp [plays]
  · refine exi (dSe (dLe (dBe ?_)))
    have e : acts.take i = acts := List.take_of_length_le (by omega)
    rw [e] at hpl
    exact finQN l' rfl (fun a => Nat.le_refl _) ⟨rfl, hpl ▸ hD'⟩
theorem dDownD {R l d D} (hD : IsD d D l) : Tri Try.prog 26 [.pointer (some ⟨d, 0, none⟩)] R l fun v l' => v = .bool D.off ∧ l' = l := by
  obtain ⟨m, kv, ck, bl, fs, rfl, hk, hF, hp⟩ := hD
  exact dDown m0
theorem dFusedD {R l d D} (hD : IsD d D l) : Tri Try.prog 27 [.pointer (some ⟨d, 0, none⟩)] R l fun v l' => v = .int .i64 D.fuse ∧ l' = l := by
  obtain ⟨m, kv, ck, bl, fs, rfl, hk, hF, hp⟩ := hD
  exact dFused m0
theorem dListD {R l d D K} (hD : IsD d D l) (hO : DOk K D) (hK : K ≤ 1000) : Tri Try.prog 20 [.pointer (some ⟨d, 0, none⟩)] R l fun v l' => ∃ p cap bk, v = .slice p (names D).length cap ∧ SlO 9 1 v ((names D).map .string) bk ∧ l' = bk ++ l := by
  refine (dList hD hO.sd (by have := hO.len; omega) (fun n hn => by
    obtain ⟨q, hq, rfl⟩ := List.mem_map.1 hn
    have := (hO.file q hq).2; omega)).mono ?_
  rintro v l' ⟨bk, hsl, rfl⟩
  obtain ⟨p, n, cap, rfl, hl⟩ := hsl.toI.len
  simp only [List.length_map, Nat.mul_one] at hl
  subst hl
  exact ⟨p, cap, bk, rfl, hsl, rfl⟩
theorem dSame {R la lb a b D K} (hA : IsD a D la) (hB : IsD b D lb) (hO : DOk K D) (hK : K ≤ 900) : Tri Try.prog 31 [.pointer (some ⟨a, 0, none⟩), .pointer (some ⟨b, 0, none⟩)] R (la ++ lb) fun v l' => v = .bool true ∧ l' = la ++ lb := by
  have hlen : (names D).length ≤ K := by have := hO.len; simp only [names, List.length_map]; omega
  have hfl : K * 20000 ≤ 900 * 20000 := Nat.mul_le_mul_right _ hK
  refine enter Try.func31 rfl rfl (by kernel_rfl) rfl fun w0 => ?_
  refine seq ?_
  refine reg ?_
  refine q (asg rfl) ?_
  refine en ?_
  refine seq ?_
  refine reg ?_
  refine q (mv rfl) ?_
  refine clQ fb20 rfl la lb (fun _ => rfl) (dListD hA hO (by omega)) ?_
  rintro _ _ ⟨pa, capa, bka, rfl, hsa, rfl⟩
  refine q (asg rfl) ?_
  refine en ?_
  refine seq ?_
  refine reg ?_
  refine q (mv rfl) ?_
  refine clQ fb20 rfl lb (bka ++ la) (fun a => by simp only [cnt_append, cnt_cons, cnt_nil]; omega) (dListD hB hO (by omega)) ?_
  rintro _ _ ⟨pb, capb, bkb, rfl, hsb, rfl⟩
  refine q (asg rfl) ?_
  refine en ?_
  refine seq ?_
  refine seq ?_
  refine reg ?_
  refine q (mv rfl) ?_
  refine q (lnL Try.underlying33 rfl) ?_
  refine q (mv rfl) ?_
  refine q (lnL Try.underlying33 rfl) ?_
  refine q (bNeq rfl rfl) ?_
  refine q (mv rfl) ?_
  refine decd (t := 25) rfl (fun h => ?_) (fun h => ?_)
  · exact absurd rfl h
  · refine gT rfl rfl ?_
    refine q (mv rfl) ?_
    refine gT rfl rfl ?_
    refine clR fb26 rfl la (bka ++ bkb ++ lb) (fun a => by simp only [cnt_append, cnt_cons, cnt_nil]; omega) (dDownD hA) ?_
    refine gT rfl rfl ?_
    refine q (mv rfl) ?_
    refine gT rfl rfl ?_
    refine clR fb26 rfl lb (bka ++ bkb ++ la) (fun a => by simp only [cnt_append, cnt_cons, cnt_nil]; omega) (dDownD hB) ?_
    refine gT rfl rfl ?_
    refine q (neS rfl rfl rfl (fun w => run_eqb Try.underlying4 w)) ?_
    refine q (by first | exact pkT rfl rfl | exact pkF rfl rfl) ?_
    refine q (mv rfl) ?_
    refine dec (t := 32) rfl (fun h2 => ?_) (fun h2 => ?_)
    · simp at h2
    · refine gT rfl rfl ?_
      refine q (mv rfl) ?_
      refine gT rfl rfl ?_
      refine clR fb27 rfl la (bka ++ bkb ++ lb) (fun a => by simp only [cnt_append, cnt_cons, cnt_nil]; omega) (dFusedD hA) ?_
      refine gT rfl rfl ?_
      refine q (mv rfl) ?_
      refine gT rfl rfl ?_
      refine clR fb27 rfl lb (bka ++ bkb ++ la) (fun a => by simp only [cnt_append, cnt_cons, cnt_nil]; omega) (dFusedD hB) ?_
      refine gT rfl rfl ?_
      refine q (bNeq rfl rfl) ?_
      refine q (by first | exact pkT rfl rfl | exact pkF rfl rfl) ?_
      refine en ?_
      refine ifd rfl (fun h => ?_) (fun h => ?_)
      · exact absurd rfl h
      · refine skp (dSq ?_)
        refine seq ?_
        refine seq ?_
        refine reg ?_
        refine q (asg rfl) ?_
        refine en ?_
        refine blk ?_
        refine cSub (e' := [(0, .pointer (some ⟨a, 0, none⟩)), (1, .pointer (some ⟨b, 0, none⟩)), (5, .slice pa (names D).length capa), (6, .slice pb (names D).length capb), (7, .int .i64 (0 : Nat))]) (by repeat first | exact Sub.nil | refine Sub.cons rfl ?_) ?_
        refine cPerm (l' := bka ++ (bkb ++ (la ++ lb))) (permC (fun a => by simp only [cnt_append, cnt_cons, cnt_nil]; omega)) ?_
        refine loop (fun m' e l' => ∃ i : Nat, l' = bka ++ (bkb ++ (la ++ lb)) ∧ e = [(0, .pointer (some ⟨a, 0, none⟩)), (1, .pointer (some ⟨b, 0, none⟩)), (5, .slice pa (names D).length capa), (6, .slice pb (names D).length capb), (7, .int .i64 i)] ∧ m' = (names D).length - i ∧ i ≤ (names D).length) (names D).length ⟨0, rfl, rfl, rfl, Nat.zero_le _⟩ ?_
        rintro m' _ _ ⟨i, rfl, rfl, rfl, hi⟩
        refine seq ?_
        refine seq ?_
        refine reg ?_
        refine q (mv rfl) ?_
        refine q (mv rfl) ?_
        refine q (lnL Try.underlying33 rfl) ?_
        refine q (bLss rfl rfl) ?_
        refine en ?_
        refine ifd rfl (fun h => ?_) (fun h => ?_)
        · have hin : i < (names D).length := by omega
          obtain ⟨n, hn⟩ : ∃ n, (names D)[i]? = some n := ⟨_, List.getElem?_eq_getElem hin⟩
          obtain ⟨bA, oA, csA, rfl, _, rfl, hvA⟩ := hsa.toI.at1 (i := i) (v := .string n) (by rw [List.getElem?_map, hn]; rfl)
          obtain ⟨bB, oB, csB, rfl, _, rfl, hvB⟩ := hsb.toI.at1 (i := i) (v := .string n) (by rw [List.getElem?_map, hn]; rfl)
          refine skp (dSq ?_)
          refine seq ?_
          refine blk ?_
          refine seq ?_
          refine reg ?_
          refine q (mv rfl) ?_
          refine q (mv rfl) ?_
          refine q (mv rfl) ?_
          refine q (ia Try.underlying33 sz9 rfl rfl (by omega) (by omega)) ?_
          refine q (ld na9 rfl (by first | exact mR (by assumption) | repeat (first | assumption | exact m0 | apply mS | apply mA)) (by first | rfl | assumption)) ?_
          refine clR fb23 rfl la ([(bA, .cells (List.toArray csA) 9 (0, 0))] ++ [(bB, .cells (List.toArray csB) 9 (0, 0))] ++ lb) (fun a => by simp only [cnt_append, cnt_cons, cnt_nil]; omega) (dRecords hA hO.sd (by have := (hO.fileOf n).len; omega)) ?_
          refine q (mv rfl) ?_
          refine q (ext rfl rfl) ?_
          refine q (ext rfl rfl) ?_
          refine q (asg rfl) ?_
          refine q (asg rfl) ?_
          refine en ?_
          refine seq ?_
          refine reg ?_
          refine q (mv rfl) ?_
          refine q (mv rfl) ?_
          refine q (mv rfl) ?_
          refine q (ia Try.underlying33 sz9 rfl rfl (by omega) (by omega)) ?_
          refine q (ld na9 rfl (by first | exact mR (by assumption) | repeat (first | assumption | exact m0 | apply mS | apply mA)) (by first | rfl | assumption)) ?_
          refine clR fb23 rfl lb ([(bA, .cells (List.toArray csA) 9 (0, 0))] ++ [(bB, .cells (List.toArray csB) 9 (0, 0))] ++ la) (fun a => by simp only [cnt_append, cnt_cons, cnt_nil]; omega) (dRecords hB hO.sd (by have := (hO.fileOf n).len; omega)) ?_
          refine q (mv rfl) ?_
          refine q (ext rfl rfl) ?_
          refine q (ext rfl rfl) ?_
          refine q (asg rfl) ?_
          refine q (asg rfl) ?_
          refine en ?_
          refine seq ?_
          refine reg ?_
          refine q (mv rfl) ?_
          refine q (mv rfl) ?_
          refine q (mv rfl) ?_
          refine q (ia Try.underlying33 sz9 rfl rfl (by omega) (by omega)) ?_
          refine q (ld na9 rfl (by first | exact mR (by assumption) | repeat (first | assumption | exact m0 | apply mS | apply mA)) (by first | rfl | assumption)) ?_
          refine clR fb22 rfl la ([(bA, .cells (List.toArray csA) 9 (0, 0))] ++ [(bB, .cells (List.toArray csB) 9 (0, 0))] ++ lb) (fun a => by simp only [cnt_append, cnt_cons, cnt_nil]; omega) (dRead hA hO.sd (by have := (hO.fileOf n).len; omega) (by have := (hO.fileOf n).bytes; omega)) ?_
          refine q (mv rfl) ?_
          refine q (ext rfl rfl) ?_
          refine q (ext rfl rfl) ?_
          refine q (asg rfl) ?_
          refine q (asg rfl) ?_
          refine en ?_
          refine seq ?_
          refine reg ?_
          refine q (mv rfl) ?_
          refine q (mv rfl) ?_
          refine q (mv rfl) ?_
          refine q (ia Try.underlying33 sz9 rfl rfl (by omega) (by omega)) ?_
          refine q (ld na9 rfl (by first | exact mR (by assumption) | repeat (first | assumption | exact m0 | apply mS | apply mA)) (by first | rfl | assumption)) ?_
          refine clR fb22 rfl lb ([(bA, .cells (List.toArray csA) 9 (0, 0))] ++ [(bB, .cells (List.toArray csB) 9 (0, 0))] ++ la) (fun a => by simp only [cnt_append, cnt_cons, cnt_nil]; omega) (dRead hB hO.sd (by have := (hO.fileOf n).len; omega) (by have := (hO.fileOf n).bytes; omega)) ?_
          refine q (mv rfl) ?_
          refine q (ext rfl rfl) ?_
          refine q (ext rfl rfl) ?_
          refine q (asg rfl) ?_
          refine q (asg rfl) ?_
          refine en ?_
          refine seq ?_
          refine drw (by kernel_rfl) [(.q, 0), (.q, 1), (.q, 2), (.q, 3), (.q, 4), (.q, 5), (.q, 6), (.q, 7), (.q, 8), (.q, 9), (.q, 10), (.q, 11), (.q, 12), (.q, 13), (.q, 14), (.q, 15), (.q, 16), (.q, 17), (.q, 18), (.q, 19), (.q, 20), (.q, 21), (.q, 22), (.q, 23), (.q, 24), (.q, 25), (.q, 26), (.q, 27), (.q, 28)] _ rfl (by kernel_rfl) (by kernel_rfl) trivial ?_
          refine xq rfl (mv rfl) ?_
          refine xq rfl (mv rfl) ?_
          refine xq rfl (ia Try.underlying33 sz9 rfl rfl (by omega) (by omega)) ?_
          refine xq rfl (ld na9 rfl (by first | exact mR (by assumption) | repeat (first | assumption | exact m0 | apply mS | apply mA)) (by first | rfl | assumption)) ?_
          refine xq rfl (mv rfl) ?_
          refine xq rfl (mv rfl) ?_
          refine xq rfl (ia Try.underlying33 sz9 rfl rfl (by omega) (by omega)) ?_
          refine xq rfl (ld na9 rfl (by first | exact mR (by assumption) | repeat (first | assumption | exact m0 | apply mS | apply mA)) (by first | rfl | assumption)) ?_
          refine xq rfl (sNeq rfl rfl) ?_
          refine xq rfl (mv rfl) ?_
          refine xdecd (t := 90) rfl (fun h4 => ?_) (fun h4 => ?_)
          · exact absurd rfl h4
          · refine xgT rfl rfl rfl (mv rfl) ?_
            refine xgT rfl rfl rfl (mv rfl) ?_
            refine xgT rfl rfl rfl (bNeq rfl rfl) ?_
            refine xq rfl ((by first | exact pkT rfl rfl | exact pkF rfl rfl)) ?_
            refine xq rfl (mv rfl) ?_
            refine xdecd (t := 95) rfl (fun h5 => ?_) (fun h5 => ?_)
            · exact absurd rfl h5
            · refine xgT rfl rfl rfl (mv rfl) ?_
              refine xgT rfl rfl rfl (mv rfl) ?_
              refine xgT rfl rfl rfl (bNeq rfl rfl) ?_
              refine xq rfl ((by first | exact pkT rfl rfl | exact pkF rfl rfl)) ?_
              refine xq rfl (mv rfl) ?_
              refine xdecd (t := 100) rfl (fun h6 => ?_) (fun h6 => ?_)
              · exact absurd rfl h6
              · refine xgT rfl rfl rfl (mv rfl) ?_
                refine xgT rfl rfl rfl (mv rfl) ?_
                refine xgT rfl rfl rfl (sNeq rfl rfl) ?_
                refine xq rfl ((by first | exact pkT rfl rfl | exact pkF rfl rfl)) ?_
                refine xq rfl (mv rfl) ?_
                refine xdecd (t := 105) rfl (fun h7 => ?_) (fun h7 => ?_)
                · exact absurd rfl h7
                · refine xgT rfl rfl rfl (mv rfl) ?_
                  refine xgT rfl rfl rfl (mv rfl) ?_
                  refine xgT rfl rfl rfl (bNeq rfl rfl) ?_
                  refine xq rfl ((by first | exact pkT rfl rfl | exact pkF rfl rfl)) ?_
                  refine dSq ?_
                  refine ifd rfl (fun h => ?_) (fun h => ?_)
                  · exact absurd rfl h
                  · refine skp (dBn (dSq ?_))
                    refine reg ?_
                    refine q (mv rfl) ?_
                    refine q (by first | exact bAddi rfl rfl (by omega) | exact bAdd rfl rfl) ?_
                    refine q (asg rfl) ?_
                    refine enD ?_
                    refine dLp (m' := (names D).length - (i + 1)) (e' := [(0, .pointer (some ⟨a, 0, none⟩)), (1, .pointer (some ⟨b, 0, none⟩)), (5, .slice (some ⟨bA, oA, none⟩) (names D).length capa), (6, .slice (some ⟨bB, oB, none⟩) (names D).length capb), (7, .int .i64 (i + 1 : Nat))]) (by omega) (by repeat first | exact Sub.nil | refine Sub.cons rfl ?_) ?_
                    exact ⟨i + 1, rfl, rfl, rfl, by omega⟩
        · refine exi (dSe (dLe (dBe (dSq ?_))))
          refine seq ?_
          refine reg ?_
          refine q (asg rfl) ?_
          refine en ?_
          refine ret ?_
          exact finQ (la ++ lb) rfl rfl (fun a => by simp only [cnt_append, cnt_cons, cnt_nil]; omega) ⟨rfl, rfl⟩
end Go.Proofs.Ytoecfgldnlglnaa

