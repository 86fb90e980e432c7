import Derived.Test.YtoecfgldnlglnaaXRg
set_option linter.unusedVariables false
set_option linter.unusedSimpArgs false
set_option maxRecDepth 20000
namespace Go.Proofs.Ytoecfgldnlglnaa
open Go Go.Wk Go.Wk.Dsk
theorem IsD.has {d D la} (h : IsD d D la) : ∃ m, ∀ (R : Rd) (l : Bl), (∀ x ∈ la, Has R l x.1 x.2) → Has R l d (dO (some m) D.off D.fuse) := by
  obtain ⟨m, kv, ck, bl0, fs, rfl, hk0, hF0, hp0⟩ := h
  exact ⟨m, fun R l hh => hh (d, _) (List.mem_cons_self ..)⟩
theorem rStands {R la lw d w D K} (hA : IsD d D la) (hB : IsW w D lw) (hO : DOk K D) (hK : K ≤ 900) : Tri Try.prog 30 [.pointer (some ⟨d, 0, none⟩), .pointer (some ⟨w, 0, none⟩)] R (la ++ lw) fun v l' => v = .bool true ∧ l' = la ++ lw := by
  have hlen : (names D).length = D.fs.length := by simp only [names, List.length_map]
  have hlK := hO.len
  have hfl : K * 20000 ≤ 900 * 20000 := Nat.mul_le_mul_right _ hK
  obtain ⟨v, bkf, bl, rfl, hF⟩ := hB
  obtain ⟨p, cap, rfl⟩ := hF.val kF
  obtain ⟨mm, hhas⟩ := IsD.has hA
  refine enter Try.func30 rfl rfl (by kernel_rfl) rfl fun w0 => ?_
  refine seq ?_
  refine reg ?_
  refine q (asg rfl) ?_
  refine en ?_
  refine seq ?_
  refine reg ?_
  refine q (mv rfl) ?_
  refine clQ fb20 rfl la ((w, wO (.slice p D.fs.length cap) D.off D.fuse) :: (bkf ++ bl)) (fun _ => rfl) (dListD hA hO (by omega)) ?_
  rintro _ _ ⟨pa, capa, bka, rfl, hsa, rfl⟩
  refine q (asg rfl) ?_
  refine en ?_
  refine seq ?_
  refine seq ?_
  refine drw (by kernel_rfl) [(.q, 0), (.q, 1), (.q, 2), (.q, 3), (.q, 4), (.q, 5), (.q, 6), (.q, 7), (.q, 8), (.q, 9), (.q, 10), (.q, 11), (.q, 12), (.q, 13), (.q, 14), (.q, 15), (.q, 16), (.q, 17), (.q, 18), (.q, 19), (.q, 20), (.q, 21), (.q, 22), (.q, 23), (.q, 24), (.q, 25)] _ rfl (by kernel_rfl) (by kernel_rfl) trivial ?_
  refine xq rfl (mv rfl) ?_
  refine xq rfl (lnL Try.underlying33 rfl) ?_
  refine xq rfl (mv rfl) ?_
  refine xq rfl (nck rfl) ?_
  refine xq rfl (fa fo53_0 rfl) ?_
  refine xq rfl (ld na51 rfl (by first | exact mR (by assumption) | repeat (first | assumption | exact m0 | apply mS | apply mA)) (by first | rfl | assumption)) ?_
  refine xq rfl (lnL Try.underlying51 rfl) ?_
  refine xq rfl (bNeq rfl rfl) ?_
  refine xq rfl (mv rfl) ?_
  refine xdecd (t := 22) rfl (fun h => ?_) (fun h => ?_)
  · exact absurd (by rw [hlen]) h
  · refine xgT rfl rfl rfl (mv rfl) ?_
    refine xcG rfl rfl rfl fb26 rfl (fun F => dDown (hhas _ _ fun x hx => by simp [Has, show (x.1, x.2) ∈ la from hx])) ?_
    refine xgT rfl rfl rfl (mv rfl) ?_
    refine xgT rfl rfl rfl (nck rfl) ?_
    refine xgT rfl rfl rfl (fa fo53_1 rfl) ?_
    refine xgT rfl rfl rfl (ld na4 rfl (by first | exact mR (by assumption) | repeat (first | assumption | exact m0 | apply mS | apply mA)) (by first | rfl | assumption)) ?_
    refine xgT rfl rfl rfl (neS rfl rfl rfl (fun w => run_eqb Try.underlying4 w)) ?_
    refine xq rfl ((by first | exact pkT rfl rfl | exact pkF rfl rfl)) ?_
    refine xq rfl (mv rfl) ?_
    refine xdec (t := 31) rfl (fun h2 => ?_) (fun h2 => ?_)
    · simp at h2
    · refine xgT rfl rfl rfl (mv rfl) ?_
      refine xcG rfl rfl rfl fb27 rfl (fun F => dFused (hhas _ _ fun x hx => by simp [Has, show (x.1, x.2) ∈ la from hx])) ?_
      refine xgT rfl rfl rfl (mv rfl) ?_
      refine xgT rfl rfl rfl (nck rfl) ?_
      refine xgT rfl rfl rfl (fa fo53_2 rfl) ?_
      refine xgT rfl rfl rfl (ld na3 rfl (by first | exact mR (by assumption) | repeat (first | assumption | exact m0 | apply mS | apply mA)) (by first | rfl | assumption)) ?_
      refine xgT rfl rfl rfl (bNeq rfl rfl) ?_
      refine xq rfl ((by first | exact pkT rfl rfl | exact pkF rfl rfl)) ?_
      refine dSq ?_
      refine ifd rfl (fun h => ?_) (fun h => ?_)
      · exact absurd rfl h
      · refine skp (dSq ?_)
        refine seq ?_
        refine seq ?_
        refine reg ?_
        refine q (asg rfl) ?_
        refine en ?_
        refine blk ?_
        refine cSub (e' := [(0, (.pointer (some ⟨d, 0, none⟩))), (1, (.pointer (some ⟨w, 0, none⟩))), (5, .slice pa (names D).length capa), (6, .int .i64 (0 : Nat))]) (by repeat first | exact Sub.nil | refine Sub.cons rfl ?_) ?_
        refine loop (fun m' e l' => ∃ (i : Nat) (J : Bl), l' = J ++ (bka ++ la ++ ((w, wO (.slice p D.fs.length cap) D.off D.fuse) :: (bkf ++ bl))) ∧ e = [(0, (.pointer (some ⟨d, 0, none⟩))), (1, (.pointer (some ⟨w, 0, none⟩))), (5, .slice pa (names D).length capa), (6, .int .i64 i)] ∧ m' = (names D).length - i ∧ i ≤ (names D).length) (names D).length ⟨0, [], by simp, rfl, rfl, Nat.zero_le _⟩ ?_
        rintro m' _ _ ⟨i, J, rfl, rfl, rfl, hi⟩
        refine seq ?_
        refine seq ?_
        refine reg ?_
        refine q (mv rfl) ?_
        refine q (mv rfl) ?_
        refine q (lnL Try.underlying33 rfl) ?_
        refine q (bLss rfl rfl) ?_
        refine en ?_
        refine ifd rfl (fun h => ?_) (fun h => ?_)
        · have hin : i < (names D).length := by omega
          obtain ⟨⟨n, f⟩, hx⟩ : ∃ q, D.fs[i]? = some q := ⟨_, List.getElem?_eq_getElem (by omega)⟩
          have hn : (names D)[i]? = some n := by simp only [names, List.getElem?_map, hx]; rfl
          obtain ⟨bA, oA, csA, rfl, _, rfl, hvA⟩ := hsa.toI.at1 (i := i) (v := .string n) (by rw [List.getElem?_map, hn]; rfl)
          obtain ⟨b, cs, vs, rfl, _, rfl, ⟨sg, rfl, hsg⟩, hj, hT, _⟩ := hF.at kF hx
          obtain ⟨pg, mg, capg, rfl, hlg⟩ := id hsg.len
          simp only [List.length_map, Nat.mul_one] at hlg
          subst hlg
          have hget : Dsk.get D.fs n = some f := get_of_mem hO.sd.nodup (List.mem_of_getElem? hx)
          have hfo : fileOf D n = f := by simp [fileOf, hget]
          have hff : FOk K f := (hO.file _ (List.mem_of_getElem? hx)).1
          have hfb := hff.bytes
          have hfl := hff.len
          refine skp (dSq ?_)
          refine seq ?_
          refine blk ?_
          refine seq ?_
          refine reg ?_
          refine q (mv rfl) ?_
          refine q (nck rfl) ?_
          refine q (fa fo53_0 rfl) ?_
          refine q (ld na51 rfl (by first | exact mR (by assumption) | repeat (first | assumption | exact m0 | apply mS | apply mA)) (by first | rfl | assumption)) ?_
          refine q (mv rfl) ?_
          refine q (ia Try.underlying51 sz115 rfl rfl (by omega) (by omega)) ?_
          refine q (ldA ag115 rfl (by first | exact mR (by assumption) | repeat (first | assumption | exact m0 | apply mS | apply mA)) (by first | assumption | repeat constructor)) ?_
          refine al zr115 rfl ?_
          intro b1
          refine stA sz115 rfl rfl rfl rfl (by repeat (first | exact .h | apply In.t | apply In.r)) (by first | assumption | repeat constructor) ?_
          refine en ?_
          refine seq ?_
          refine reg ?_
          refine q (mv rfl) ?_
          refine q (mv rfl) ?_
          refine q (mv rfl) ?_
          refine q (ia Try.underlying33 sz9 rfl rfl (by omega) (by omega)) ?_
          refine q (ld na9 rfl (by first | exact mR (by assumption) | repeat (first | assumption | exact m0 | apply mS | apply mA)) (by first | rfl | assumption)) ?_
          refine clR fb23 rfl la ((b1, .cells (List.toArray [.string n, .slice pg f.recs.length capg, .int .i64 f.synced, .bool f.cut, .string f.torn]) 115 (0, 0)) :: (J ++ ([(bA, .cells (List.toArray csA) 9 (0, 0))] ++ ((w, wO (.slice (some ⟨b, 0, none⟩) D.fs.length cap) D.off D.fuse) :: ([(b, .cells (List.toArray cs) 115 (0, 0))] ++ bl))))) (fun a => by first | (simp only [cnt_append, cnt_cons, cnt_nil, wO, fileW]; done) | (simp only [cnt_append, cnt_cons, cnt_nil, wO, fileW]; omega)) (dRecords hA hO.sd (by rw [hfo]; omega)) ?_
          rw [records, hfo]
          refine q (mv rfl) ?_
          refine q (ext rfl rfl) ?_
          refine q (ext rfl rfl) ?_
          refine q (asg rfl) ?_
          refine q (asg rfl) ?_
          refine en ?_
          refine seq ?_
          refine reg ?_
          refine q (mv rfl) ?_
          refine q (mv rfl) ?_
          refine q (mv rfl) ?_
          refine q (ia Try.underlying33 sz9 rfl rfl (by omega) (by omega)) ?_
          refine q (ld na9 rfl (by first | exact mR (by assumption) | repeat (first | assumption | exact m0 | apply mS | apply mA)) (by first | rfl | assumption)) ?_
          refine clR fb22 rfl la ((b1, .cells (List.toArray [.string n, .slice pg f.recs.length capg, .int .i64 f.synced, .bool f.cut, .string f.torn]) 115 (0, 0)) :: (J ++ ([(bA, .cells (List.toArray csA) 9 (0, 0))] ++ ((w, wO (.slice (some ⟨b, 0, none⟩) D.fs.length cap) D.off D.fuse) :: ([(b, .cells (List.toArray cs) 115 (0, 0))] ++ bl))))) (fun a => by first | (simp only [cnt_append, cnt_cons, cnt_nil, wO, fileW]; done) | (simp only [cnt_append, cnt_cons, cnt_nil, wO, fileW]; omega)) (dRead hA hO.sd (by rw [hfo]; omega) (by rw [hfo]; omega)) ?_
          refine q (mv rfl) ?_
          refine q (ext rfl rfl) ?_
          refine q (ext rfl rfl) ?_
          refine q (asg rfl) ?_
          refine q (asg rfl) ?_
          refine en ?_
          refine seq ?_
          refine drw (by kernel_rfl) ((.q, 0) :: (.q, 1) :: (.q, 2) :: (.q, 3) :: (.q, 4) :: (.q, 5) :: (.q, 6) :: (.q, 7) :: (.q, 8) :: (.q, 9) :: (.q, 10) :: (.q, 11) :: (.q, 12) :: (.q, 13) :: (.q, 14) :: (.q, 15) :: (.q, 16) :: (.q, 17) :: (.q, 18) :: (.q, 19) :: (.q, 20) :: (.q, 21) :: (.q, 22) :: (.q, 23) :: (.q, 24) :: (.q, 25) :: (.q, 26) :: (.q, 27) :: (.q, 28) :: (.q, 29) :: (.q, 30) :: (.q, 31) :: (.q, 32) :: (.q, 33) :: (.q, 34) :: (.q, 35) :: (.q, 36) :: []) _ rfl (by kernel_rfl) (by kernel_rfl) trivial ?_
          refine xq rfl (mv rfl) ?_
          refine xq rfl (mv rfl) ?_
          refine xq rfl (ia Try.underlying33 sz9 rfl rfl (by omega) (by omega)) ?_
          refine xq rfl (ld na9 rfl (by first | exact mR (by assumption) | repeat (first | assumption | exact m0 | apply mS | apply mA)) (by first | rfl | assumption)) ?_
          refine xq rfl (fa fo115_0 rfl) ?_
          refine xq rfl (ld na9 rfl (by first | exact mR (by assumption) | repeat (first | assumption | exact m0 | apply mS | apply mA)) (by first | rfl | assumption)) ?_
          refine xq rfl (sNeq rfl rfl) ?_
          refine xq rfl (mv rfl) ?_
          refine xdecd (t := 78) rfl (fun h4 => ?_) (fun h4 => ?_)
          · exact absurd rfl h4
          · refine xgT rfl rfl rfl (mv rfl) ?_
            refine xgT rfl rfl rfl (fa fo115_1 rfl) ?_
            refine xgT rfl rfl rfl (ld na33 rfl (by first | exact mR (by assumption) | repeat (first | assumption | exact m0 | apply mS | apply mA)) (by first | rfl | assumption)) ?_
            refine xgT rfl rfl rfl (lnL Try.underlying33 rfl) ?_
            refine xgT rfl rfl rfl (bNeq rfl rfl) ?_
            refine xq rfl ((by first | exact pkT rfl rfl | exact pkF rfl rfl)) ?_
            refine xq rfl (mv rfl) ?_
            refine xdecd (t := 85) rfl (fun h5 => ?_) (fun h5 => ?_)
            · exact absurd rfl h5
            · refine xgT rfl rfl rfl (mv rfl) ?_
              refine xgT rfl rfl rfl (fa fo115_2 rfl) ?_
              refine xgT rfl rfl rfl (ld na3 rfl (by first | exact mR (by assumption) | repeat (first | assumption | exact m0 | apply mS | apply mA)) (by first | rfl | assumption)) ?_
              refine xgT rfl rfl rfl (bNeq rfl rfl) ?_
              refine xq rfl ((by first | exact pkT rfl rfl | exact pkF rfl rfl)) ?_
              refine xq rfl (mv rfl) ?_
              refine xdecd (t := 91) rfl (fun h6 => ?_) (fun h6 => ?_)
              · exact absurd rfl h6
              · refine xgT rfl rfl rfl (mv rfl) ?_
                refine xgT rfl rfl rfl (nck rfl) ?_
                refine xgT rfl rfl rfl (fa fo53_1 rfl) ?_
                refine xgT rfl rfl rfl (ld na4 rfl (by first | exact mR (by assumption) | repeat (first | assumption | exact m0 | apply mS | apply mA)) (by first | rfl | assumption)) ?_
                refine xgT rfl rfl rfl ((by first | exact bNotd rfl | exact bNot rfl)) ?_
                refine xgT rfl rfl rfl (mv rfl) ?_
                refine xdec (t := 97) rfl (fun h7 => ?_) (fun h7 => ?_)
                · have hoff : D.off = false := by simpa using h7
                  have hrd : Dsk.read D n = (Dsk.bytes f, 0) := by simp [Dsk.read, hoff, hget]
                  rw [hrd]
                  refine xgT rfl rfl rfl (mv rfl) ?_
                  refine xgT rfl rfl rfl (ldA ag115 rfl (by first | exact mR (by assumption) | repeat (first | assumption | exact m0 | apply mS | apply mA)) (by first | assumption | repeat constructor)) ?_
                  refine xcG rfl rfl rfl fb69 rfl (fun F => Tri.ro (rBytes (n := n) (hsg.1.mono fun b' o' hb => .inr (by simp [show (b', o') ∈ bl from hb])) (by show f.recs.length ≤ _; omega) (by show (Dsk.bytes f).size ≤ _; omega))) ?_
                  refine xgT rfl rfl rfl (sNeq rfl rfl) ?_
                  refine xgT rfl rfl rfl (mv rfl) ?_
                  refine xdecd (t := 102) rfl (fun h8 => ?_) (fun h8 => ?_)
                  · exact absurd rfl h8
                  · refine xgT rfl rfl rfl (mv rfl) ?_
                    refine xgT rfl rfl rfl (bNeq rfl rfl) ?_
                    refine xgT rfl rfl rfl ((by first | exact pkT rfl rfl | exact pkF rfl rfl)) ?_
                    refine xgT rfl rfl rfl ((by first | exact pkT rfl rfl | exact pkF rfl rfl)) ?_
                    refine xq rfl ((by first | exact pkT rfl rfl | exact pkF rfl rfl)) ?_
                    refine dSq ?_
                    refine ifd rfl (fun h9 => ?_) (fun h9 => ?_)
                    · exact absurd rfl h9
                    · refine skp (dBn (dSq ?_))
                      refine reg ?_
                      refine q (mv rfl) ?_
                      refine q (by first | exact bAddi rfl rfl (by omega) | exact bAdd rfl rfl) ?_
                      refine q (asg rfl) ?_
                      refine enD ?_
                      refine dPerm (l' := ((b1, .cells (List.toArray [.string n, .slice pg f.recs.length capg, .int .i64 f.synced, .bool f.cut, .string f.torn]) 115 (0, 0)) :: J) ++ ([(bA, .cells (List.toArray csA) 9 (0, 0))] ++ la ++ ((w, wO (.slice (some ⟨b, 0, none⟩) D.fs.length cap) D.off D.fuse) :: ([(b, .cells (List.toArray cs) 115 (0, 0))] ++ bl)))) (permC (fun a => by first | (simp only [cnt_append, cnt_cons, cnt_nil, wO, fileW]; done) | (simp only [cnt_append, cnt_cons, cnt_nil, wO, fileW]; omega))) (dLp (m' := (names D).length - (i + 1)) (e' := [(0, (.pointer (some ⟨d, 0, none⟩))), (1, (.pointer (some ⟨w, 0, none⟩))), (5, .slice (some ⟨bA, oA, none⟩) (names D).length capa), (6, .int .i64 (i + 1 : Nat))]) (by omega) (by repeat first | exact Sub.nil | refine Sub.cons rfl ?_) ?_)
                      exact ⟨i + 1, _, rfl, rfl, rfl, by omega⟩
                · first | refine xgF rfl rfl rfl rfl ?_ | refine xgU rfl rfl rfl ?_
                  first | refine xgF rfl rfl rfl rfl ?_ | refine xgU rfl rfl rfl ?_
                  first | refine xgF rfl rfl rfl rfl ?_ | refine xgU rfl rfl rfl ?_
                  first | refine xgF rfl rfl rfl rfl ?_ | refine xgU rfl rfl rfl ?_
                  first | refine xgF rfl rfl rfl rfl ?_ | refine xgU rfl rfl rfl ?_
                  first | refine xgF rfl rfl rfl rfl ?_ | refine xgU rfl rfl rfl ?_
                  first | refine xgF rfl rfl rfl rfl ?_ | refine xgU rfl rfl rfl ?_
                  first | refine xgF rfl rfl rfl rfl ?_ | refine xgU rfl rfl rfl ?_
                  refine xgT rfl rfl rfl ((by first | exact pkT rfl rfl | exact pkF rfl rfl)) ?_
                  refine xq rfl ((by first | exact pkT rfl rfl | exact pkF rfl rfl)) ?_
                  refine dSq ?_
                  refine ifF rfl ?_
                  refine skp (dBn (dSq ?_))
                  refine reg ?_
                  refine q (mv rfl) ?_
                  refine q (by first | exact bAddi rfl rfl (by omega) | exact bAdd rfl rfl) ?_
                  refine q (asg rfl) ?_
                  refine enD ?_
                  refine dPerm (l' := ((b1, .cells (List.toArray [.string n, .slice pg f.recs.length capg, .int .i64 f.synced, .bool f.cut, .string f.torn]) 115 (0, 0)) :: J) ++ ([(bA, .cells (List.toArray csA) 9 (0, 0))] ++ la ++ ((w, wO (.slice (some ⟨b, 0, none⟩) D.fs.length cap) D.off D.fuse) :: ([(b, .cells (List.toArray cs) 115 (0, 0))] ++ bl)))) (permC (fun a => by first | (simp only [cnt_append, cnt_cons, cnt_nil, wO, fileW]; done) | (simp only [cnt_append, cnt_cons, cnt_nil, wO, fileW]; omega))) (dLp (m' := (names D).length - (i + 1)) (e' := [(0, (.pointer (some ⟨d, 0, none⟩))), (1, (.pointer (some ⟨w, 0, none⟩))), (5, .slice (some ⟨bA, oA, none⟩) (names D).length capa), (6, .int .i64 (i + 1 : Nat))]) (by omega) (by repeat first | exact Sub.nil | refine Sub.cons rfl ?_) ?_)
                  exact ⟨i + 1, _, rfl, rfl, rfl, by omega⟩
        · refine exi (dSe (dLe (dBe (dSq ?_))))
          refine seq ?_
          refine reg ?_
          refine q (asg rfl) ?_
          refine en ?_
          refine ret ?_
          exact finQ _ rfl rfl (fun a => by first | (simp only [cnt_append, cnt_cons, cnt_nil, wO, fileW]; done) | (simp only [cnt_append, cnt_cons, cnt_nil, wO, fileW]; omega)) ⟨rfl, rfl⟩
end Go.Proofs.Ytoecfgldnlglnaa

