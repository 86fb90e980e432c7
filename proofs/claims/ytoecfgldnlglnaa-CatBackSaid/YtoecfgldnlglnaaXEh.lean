import Derived.Test.YtoecfgldnlglnaaXEg
set_option linter.unusedVariables false
set_option linter.unusedSimpArgs false
set_option maxRecDepth 20000
namespace Go.Proofs.Ytoecfgldnlglnaa
open Go Go.Wk Go.Wk.Num
theorem write_pre {M N : CM} (hM : CI M) (hN : CI N) {t : List UInt8} (h : M.write ++ t = N.write) : M = N ∧ t = [] := by
  have hq : ∀ i, i < 4 → M.tail i ++ t = N.tail i → M.q i = N.q i ∧ M.tail (i + 1) ++ t = N.tail (i + 1) := fun i hi h => by
    rw [tail_succ hM hi, tail_succ hN hi, List.append_assoc] at h
    exact wQ_inj (hM.qcase i) (hN.qcase i) h
  obtain ⟨a0, h0⟩ := hq 0 (by decide) h
  obtain ⟨a1, h1⟩ := hq 1 (by decide) h0
  obtain ⟨a2, h2⟩ := hq 2 (by decide) h1
  obtain ⟨a3, h3⟩ := hq 3 (by decide) h2
  rw [tail_four hM, tail_four hN, List.append_assoc] at h3
  have lM := hM.len16'
  have lN := hN.len16'
  have hr := congrArg rN h3
  rw [(r_app (n := M.ps.length) (by unfold M64; omega) _).1, (r_app (n := N.ps.length) (by unfold M64; omega) _).1] at hr
  rw [hr] at h3
  have h4 := congrArg List.length (List.append_cancel_left h3)
  rw [List.length_append, wps_len, wps_len, hr] at h4
  have ht : t = [] := List.eq_nil_of_length_eq_zero (by omega)
  subst ht
  rw [List.append_nil] at h
  exact ⟨write_inj hM hN h, rfl⟩
theorem wCatBack {R v1 v2 l m b} {n : Int} (h1 : RSl 15 (Flat actC) R v1 l) (h2 : RSl 15 (Flat actC) R v2 m) (hn : 0 ≤ n ∧ n ≤ 65535) : Tri Try.prog 8 [v1, v2, .int .u16 n, bs b] R [] fun v l' => v = .bool true ∧ l' = [] := by
  obtain ⟨pl, kl, rfl⟩ := h1.val kAct
  obtain ⟨pm, cm, rfl⟩ := h2.val kAct
  have hbs := bs_size b
  refine enter Try.func8 rfl rfl (by kernel_rfl) rfl fun w0 => ?_
  refine seq ?_
  refine reg ?_
  refine q (asg rfl) ?_
  refine en ?_
  refine seq ?_
  refine seq ?_
  refine reg ?_
  refine q (mv rfl) ?_
  refine q (lnL Try.underlying58 rfl) ?_
  refine q (bGtr rfl rfl) ?_
  refine q (mv rfl) ?_
  refine decd (t := 24) rfl (fun g1 => ?_) (fun g1 => ?_)
  · first | refine gF rfl rfl rfl ?_ | refine gU rfl rfl ?_
    first | refine gF rfl rfl rfl ?_ | refine gU rfl rfl ?_
    first | refine gF rfl rfl rfl ?_ | refine gU rfl rfl ?_
    refine q (by first | exact pkT rfl rfl | exact pkF rfl rfl) ?_
    refine q (mv rfl) ?_
    first | refine gF rfl rfl rfl ?_ | refine gU rfl rfl ?_
    first | refine gF rfl rfl rfl ?_ | refine gU rfl rfl ?_
    first | refine gF rfl rfl rfl ?_ | refine gU rfl rfl ?_
    refine q (by first | exact pkT rfl rfl | exact pkF rfl rfl) ?_
    refine en ?_
    refine ifT rfl ?_
    refine seq ?_
    refine reg ?_
    refine cl0v fb32 rfl pAwake ?_
    refine q (asg rfl) ?_
    refine en ?_
    refine ret (dSr ?_)
    exact finQ [] rfl rfl (fun a => by first | (simp only [cnt_append, cnt_cons, cnt_nil, id]; done) | (simp only [cnt_append, cnt_cons, cnt_nil, id]; omega)) ⟨rfl, rfl⟩
  · refine gT rfl rfl ?_
    refine q (mv rfl) ?_
    refine gT rfl rfl ?_
    refine q (lnL Try.underlying58 rfl) ?_
    refine gT rfl rfl ?_
    refine q (bGtr rfl rfl) ?_
    refine q (by first | exact pkT rfl rfl | exact pkF rfl rfl) ?_
    refine q (mv rfl) ?_
    refine decd (t := 29) rfl (fun g2 => ?_) (fun g2 => ?_)
    · first | refine gF rfl rfl rfl ?_ | refine gU rfl rfl ?_
      first | refine gF rfl rfl rfl ?_ | refine gU rfl rfl ?_
      first | refine gF rfl rfl rfl ?_ | refine gU rfl rfl ?_
      refine q (by first | exact pkT rfl rfl | exact pkF rfl rfl) ?_
      refine en ?_
      refine ifT rfl ?_
      refine seq ?_
      refine reg ?_
      refine cl0v fb32 rfl pAwake ?_
      refine q (asg rfl) ?_
      refine en ?_
      refine ret (dSr ?_)
      exact finQ [] rfl rfl (fun a => by first | (simp only [cnt_append, cnt_cons, cnt_nil, id]; done) | (simp only [cnt_append, cnt_cons, cnt_nil, id]; omega)) ⟨rfl, rfl⟩
    · refine gT rfl rfl ?_
      refine q (mv rfl) ?_
      refine gT rfl rfl ?_
      refine q (lnS Try.underlying9 rfl) ?_
      refine gT rfl rfl ?_
      refine q (bGtr rfl rfl) ?_
      refine q (by first | exact pkT rfl rfl | exact pkF rfl rfl) ?_
      refine en ?_
      refine ifd rfl (fun g3 => ?_) (fun g3 => ?_)
      · refine seq ?_
        refine reg ?_
        refine cl0v fb32 rfl pAwake ?_
        refine q (asg rfl) ?_
        refine en ?_
        refine ret (dSr ?_)
        exact finQ [] rfl rfl (fun a => by first | (simp only [cnt_append, cnt_cons, cnt_nil, id]; done) | (simp only [cnt_append, cnt_cons, cnt_nil, id]; omega)) ⟨rfl, rfl⟩
      · refine skp (dSq ?_)
        refine seq ?_
        refine reg ?_
        refine cl0 fb33 rfl pNew ?_
        rintro _ lc ⟨c, rfl, hC⟩
        rw [List.append_nil]
        refine q (asg rfl) ?_
        refine en ?_
        refine seq ?_
        refine seq ?_
        refine reg ?_
        refine q (asg rfl) ?_
        refine en ?_
        refine blk ?_
        refine cSub (e' := [(0, .slice pl l.length kl), (1, .slice pm m.length cm), (2, .int .u16 n), (3, bs b), (9, .pointer (some ⟨c, 0, none⟩)), (10, .int .i64 (0 : Nat))]) (by repeat first | exact Sub.nil | refine Sub.cons rfl ?_) ?_
        refine loop (fun m' e l' => ∃ (i : Nat) (c : Nat) (M : CM), m' = l.length - i ∧ i ≤ l.length ∧ IsC c M l' ∧ CI M ∧ e = [(0, .slice pl l.length kl), (1, .slice pm m.length cm), (2, .int .u16 n), (3, bs b), (9, .pointer (some ⟨c, 0, none⟩)), (10, .int .i64 (i : Nat))]) l.length ⟨0, c, _, rfl, by omega, hC, CI.none, rfl⟩ ?_
        clear hC
        rintro m' _ lc ⟨i, c, M, rfl, hi, hC, hI, rfl⟩
        refine seq ?_
        refine seq ?_
        refine reg ?_
        refine q (mv rfl) ?_
        refine q (mv rfl) ?_
        refine q (lnL Try.underlying58 rfl) ?_
        refine q (bLss rfl rfl) ?_
        refine en ?_
        refine ifd rfl (fun hlt => ?_) (fun hlt => ?_)
        · have hlt : i < l.length := by omega
          have hx := List.getElem?_eq_getElem hlt
          generalize l[i] = a at hx
          obtain ⟨b', o, cs, E, fz, vs, rfl, _, hR, rfl, hj, hTT⟩ := h1.at kAct hx
          refine skp (dSq ?_)
          refine seq ?_
          refine blk ?_
          refine reg ?_
          refine q (mv rfl) ?_
          refine q (mv rfl) ?_
          refine q (mv rfl) ?_
          refine q (ia Try.underlying58 sz69 rfl rfl (by omega) (by omega)) ?_
          refine q (ldA ag69 rfl (by first | exact mR (by assumption) | repeat (first | assumption | exact m0 | apply mS | apply mA)) (by first | assumption | repeat constructor)) ?_
          refine cl fb34 rfl (pDoes hC hI) ?_
          rintro _ l2 ⟨c', rfl, hC2⟩
          refine q (mv rfl) ?_
          refine q (ext rfl rfl) ?_
          refine q (ext rfl rfl) ?_
          refine q (asg rfl) ?_
          refine enD (dBn (dSq ?_))
          refine reg ?_
          refine q (mv rfl) ?_
          refine q (by first | exact bAddi rfl rfl (by omega) | exact bAdd rfl rfl) ?_
          refine q (asg rfl) ?_
          refine enD ?_
          exact dLp (m' := l.length - (i + 1)) (e' := [(0, .slice (some ⟨b', o, none⟩) l.length kl), (1, .slice pm m.length cm), (2, .int .u16 n), (3, bs b), (9, .pointer (some ⟨c', 0, none⟩)), (10, .int .i64 ((i + 1 : Nat) : Int))]) (by omega) (by repeat first | exact Sub.nil | refine Sub.cons rfl ?_) ⟨i + 1, c', _, rfl, by omega, hC2, doAct_CI hI a, rfl⟩
        · refine exi (dSe (dLe (dBe (dSq ?_))))
          refine seq ?_
          refine reg ?_
          refine q (mv rfl) ?_
          refine cl0v fb35 rfl (pWrite (hC.rd fun x hx => .inr hx) hI) ?_
          have hwl := write_len hI
          have hws := bs_size M.write
          refine q (asg rfl) ?_
          refine en ?_
          refine seq ?_
          refine reg ?_
          refine q (mv rfl) ?_
          refine cl0 fb36 rfl (pRead (by omega)) ?_
          rintro _ ld (⟨d, M', hI', hw, rfl, hD⟩ | ⟨hno, _⟩)
          case inr => exact absurd rfl (hno M hI)
          obtain rfl := write_inj hI' hI hw
          refine q (mv rfl) ?_
          refine q (ext rfl rfl) ?_
          refine q (ext rfl rfl) ?_
          refine q (asg rfl) ?_
          refine q (asg rfl) ?_
          refine en ?_
          refine seq ?_
          refine seq ?_
          refine reg ?_
          refine q (mv rfl) ?_
          refine q (lnS Try.underlying9 rfl) ?_
          refine q (bLss rfl rfl) ?_
          refine q (mv rfl) ?_
          refine decd (t := 61) rfl (fun g4 => ?_) (fun g4 => ?_)
          · omega
          · refine gT rfl rfl ?_
            refine q (mv rfl) ?_
            refine gT rfl rfl ?_
            refine q (by first | exact bNotd rfl | exact bNot rfl) ?_
            refine q (by first | exact pkT rfl rfl | exact pkF rfl rfl) ?_
            refine q (mv rfl) ?_
            refine gT rfl rfl ?_
            refine q (mv rfl) ?_
            refine gT rfl rfl ?_
            refine q (eqS rfl rfl rfl (fun w => run_pnil Try.underlying60 w)) ?_
            refine q (by first | exact pkT rfl rfl | exact pkF rfl rfl) ?_
            refine en ?_
            refine ifF rfl ?_
            refine skp (dSq ?_)
            refine seq ?_
            refine reg ?_
            refine q (mv rfl) ?_
            refine q (mv rfl) ?_
            refine q ((cvI Try.underlying59 Try.underlying3 rfl).to (u := .int .i64 n) (congrArg (Value.int .i64) (wrap_i64 (by omega)))) ?_
            refine q (mv rfl) ?_
            refine q (lnS Try.underlying9 rfl) ?_
            refine q (bRem rfl rfl (by omega)) ?_
            have hk : n.tmod (((⟨M'.write.toArray⟩ : ByteArray).size : Nat) : Int) = ((n.toNat % M'.write.length : Nat) : Int) := by
              rw [hws]
              have : n = (n.toNat : Int) := by omega
              rw [this, tmod_nat]; simp
            rw [hk]
            have hkl : n.toNat % M'.write.length < M'.write.length := Nat.mod_lt _ (by omega)
            generalize n.toNat % M'.write.length = k at hkl
            refine q (slT (L := 0) (H := k) Try.underlying9 rfl rfl rfl (by omega) (by rw [hws]; omega)) ?_
            rw [bs_extract, List.drop_zero, Nat.sub_zero]
            refine cl0 fb36 rfl (pRead (by rw [List.length_take]; omega)) ?_
            rintro _ lx (⟨x, N, hIN, hwN, _⟩ | ⟨_, rfl⟩)
            case inl =>
              exfalso
              have h3 : N.write ++ M'.write.drop k = M'.write := by rw [hwN, List.take_append_drop]
              have h4 := (write_pre hIN hI h3).2
              have h5 := congrArg List.length h4
              rw [List.length_drop, List.length_nil] at h5
              omega
            refine q (mv rfl) ?_
            refine q (ext rfl rfl) ?_
            refine q (ext rfl rfl) ?_
            refine q (asg rfl) ?_
            refine q (asg rfl) ?_
            refine en ?_
            refine seq ?_
            refine reg ?_
            refine q (mv rfl) ?_
            refine q (mv rfl) ?_
            refine q (sAdd rfl rfl (by rw [hws]; omega)) ?_
            rw [bs_app]
            refine cl0 fb36 rfl (pRead (by rw [List.length_append]; omega)) ?_
            rintro u ly hu
            have hu2 : ∃ x, u = .tuple (List.toArray [x, .bool (decide (b = []))]) := by
              rcases hu with ⟨x, N, hIN, hwN, rfl, _⟩ | ⟨hno, rfl⟩
              · have h4 := (write_pre hI hIN hwN.symm).2
                exact ⟨_, by rw [decide_eq_true h4]⟩
              · have hb : ¬ b = [] := fun hb => hno M' hI (by rw [hb, List.append_nil])
                exact ⟨_, by rw [decide_eq_false hb]⟩
            obtain ⟨xu, rfl⟩ := hu2
            clear hu
            refine q (mv rfl) ?_
            refine q (ext rfl rfl) ?_
            refine q (ext rfl rfl) ?_
            refine q (asg rfl) ?_
            refine q (asg rfl) ?_
            refine en ?_
            refine seq ?_
            refine seq ?_
            refine reg ?_
            refine q (mv rfl) ?_
            refine q (mv rfl) ?_
            refine gT rfl rfl ?_
            refine q (mv rfl) ?_
            refine gT rfl rfl ?_
            refine q (mv rfl) ?_
            refine gT rfl rfl ?_
            refine q (sEql rfl rfl) ?_
            refine gT rfl rfl ?_
            refine q (neS rfl rfl rfl (fun w => run_eqb Try.underlying4 w)) ?_
            refine q (by first | exact pkT rfl rfl | exact pkF rfl rfl) ?_
            refine en ?_
            have hdd : decide (b = []) = decide ((⟨b.toArray⟩ : ByteArray) = ⟨#[]⟩) := decide_eq_decide.2 (bs_inj (b := [])).symm
            refine ifb rfl (fun hcc => ?_) (fun hcc => ?_)
            · exact absurd hcc (by simp [hdd])
            · refine skp (dSq ?_)
              refine seq ?_
              refine seq ?_
              refine reg ?_
              refine q (asg rfl) ?_
              refine en ?_
              refine blk ?_
              refine cSub (e' := [(1, .slice pm m.length cm), (9, .pointer (some ⟨c, 0, none⟩)), (12, .pointer (some ⟨d, 0, none⟩)), (18, .int .i64 (0 : Nat))]) (by repeat first | exact Sub.nil | refine Sub.cons rfl ?_) ?_
              refine loop (fun m' e l' => ∃ (i c d : Nat) (M : CM) (lc ld lr : Bl), m' = m.length - i ∧ i ≤ m.length ∧ IsC c M lc ∧ IsC d M ld ∧ CI M ∧ e = [(1, .slice pm m.length cm), (9, .pointer (some ⟨c, 0, none⟩)), (12, .pointer (some ⟨d, 0, none⟩)), (18, .int .i64 (i : Nat))] ∧ (∀ a, cnt a l' = cnt a (lc ++ (ld ++ lr)))) m.length ⟨0, c, d, M', lc, ld, ly ++ lx, rfl, by omega, hC, hD, hI, rfl, fun a => by simp only [cnt_append]; omega⟩ ?_
              clear hC hD
              rintro m' _ l' ⟨i, c, d, M, lc, ld, lr, rfl, hi, hC, hD, hI, rfl, hcnt⟩
              refine cPerm (permC hcnt) ?_
              refine seq ?_
              refine seq ?_
              refine reg ?_
              refine q (mv rfl) ?_
              refine q (mv rfl) ?_
              refine q (lnL Try.underlying58 rfl) ?_
              refine q (bLss rfl rfl) ?_
              refine en ?_
              refine ifd rfl (fun hlt => ?_) (fun hlt => ?_)
              · have hlt : i < m.length := by omega
                have hx := List.getElem?_eq_getElem hlt
                generalize m[i] = a at hx
                obtain ⟨b', o, cs, E, fz, vs, rfl, _, hR, rfl, hj, hTT⟩ := h2.at kAct hx
                refine skp (dSq ?_)
                refine seq ?_
                refine blk ?_
                refine seq ?_
                refine reg ?_
                refine q (asg rfl) ?_
                refine q (asg rfl) ?_
                refine en ?_
                refine seq ?_
                refine reg ?_
                refine q (mv rfl) ?_
                refine q (mv rfl) ?_
                refine q (mv rfl) ?_
                refine q (ia Try.underlying58 sz69 rfl rfl (by omega) (by omega)) ?_
                refine q (ldA ag69 rfl (by first | exact mR (by assumption) | repeat (first | assumption | exact m0 | apply mS | apply mA)) (by first | assumption | repeat constructor)) ?_
                refine clQ fb34 rfl lc (ld ++ lr) (fun a => rfl) (pDoes hC hI) ?_
                rintro _ lc2 ⟨c', rfl, hC2⟩
                refine q (mv rfl) ?_
                refine q (ext rfl rfl) ?_
                refine q (ext rfl rfl) ?_
                refine q (asg rfl) ?_
                refine q (asg rfl) ?_
                refine en ?_
                refine seq ?_
                refine reg ?_
                refine q (mv rfl) ?_
                refine q (mv rfl) ?_
                refine q (mv rfl) ?_
                refine q (ia Try.underlying58 sz69 rfl rfl (by omega) (by omega)) ?_
                refine q (ldA ag69 rfl (by first | exact mR (by assumption) | repeat (first | assumption | exact m0 | apply mS | apply mA)) (by first | assumption | repeat constructor)) ?_
                refine clQ fb34 rfl ld (lc2 ++ lr) (fun a => by first | (simp only [cnt_append, cnt_cons, cnt_nil, id]; done) | (simp only [cnt_append, cnt_cons, cnt_nil, id]; omega)) (pDoes hD hI) ?_
                rintro _ ld2 ⟨d', rfl, hD2⟩
                have hI2 := doAct_CI hI a
                generalize (doAct M a).2 = M2 at hC2 hD2 hI2
                refine q (mv rfl) ?_
                refine q (ext rfl rfl) ?_
                refine q (ext rfl rfl) ?_
                refine q (asg rfl) ?_
                refine q (asg rfl) ?_
                refine en ?_
                refine seq ?_
                refine reg ?_
                refine q (mv rfl) ?_
                refine q (mv rfl) ?_
                refine q (bNeq rfl rfl) ?_
                refine q (mv rfl) ?_
                refine decd (t := 121) rfl (fun hne => ?_) (fun hne => ?_)
                · exact absurd rfl hne
                · refine gT rfl rfl ?_
                  refine q (mv rfl) ?_
                  refine gT rfl rfl ?_
                  refine cl0v fb35 rfl (pWrite (hC2.rd fun x hx => .inr (by simp [hx])) hI2) ?_
                  refine gT rfl rfl ?_
                  refine q (mv rfl) ?_
                  refine gT rfl rfl ?_
                  refine cl0v fb35 rfl (pWrite (hD2.rd fun x hx => .inr (by simp [hx])) hI2) ?_
                  refine gT rfl rfl ?_
                  refine q (sNeq rfl rfl) ?_
                  refine q (by first | exact pkT rfl rfl | exact pkF rfl rfl) ?_
                  refine en ?_
                  refine ifd rfl (fun hww => ?_) (fun hww => ?_)
                  · exact absurd rfl hww
                  · refine skp (dBn (dSq ?_))
                    refine reg ?_
                    refine q (mv rfl) ?_
                    refine q (by first | exact bAddi rfl rfl (by omega) | exact bAdd rfl rfl) ?_
                    refine q (asg rfl) ?_
                    refine enD ?_
                    exact dLp (m' := m.length - (i + 1)) (e' := [(1, .slice (some ⟨b', o, none⟩) m.length cm), (9, .pointer (some ⟨c', 0, none⟩)), (12, .pointer (some ⟨d', 0, none⟩)), (18, .int .i64 ((i + 1 : Nat) : Int))]) (by omega) (by repeat first | exact Sub.nil | refine Sub.cons rfl ?_) ⟨i + 1, c', d', M2, lc2, ld2, lr, rfl, by omega, hC2, hD2, hI2, rfl, fun a => by simp only [cnt_append]; omega⟩
              · refine exi (dSe (dLe (dBe (dSq ?_))))
                refine seq ?_
                refine reg ?_
                refine cl0v fb32 rfl pAwake ?_
                refine q (asg rfl) ?_
                refine en ?_
                refine ret ?_
                exact finQ [] rfl rfl (fun a => by first | (simp only [cnt_append, cnt_cons, cnt_nil, id]; done) | (simp only [cnt_append, cnt_cons, cnt_nil, id]; omega)) ⟨rfl, rfl⟩

