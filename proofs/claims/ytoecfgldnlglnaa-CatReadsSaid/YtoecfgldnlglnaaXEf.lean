import Derived.Test.YtoecfgldnlglnaaXCy
set_option linter.unusedVariables false
set_option linter.unusedSimpArgs false
set_option maxRecDepth 20000
namespace Go.Proofs.Ytoecfgldnlglnaa
open Go Go.Wk Go.Wk.Num
/-! # Acts -/
structure AC where
  kd : UInt8
  slot : UInt8
  role : UInt8
  tok : Tok
  q : Quo
def actC (a : AC) : List Value := u8V a.kd :: u8V a.slot :: u8V a.role :: (tokC a.tok ++ quoC a.q)
theorem actC_len (a : AC) : (actC a).length = 15 := by simp [actC, tokC_len, quoC_len]
theorem actC_one (a : AC) : (actC a).all Go.Wk.one = true := by
  have h1 := tokC_one a.tok
  simp only [actC, List.all_cons, List.all_append, h1, Bool.true_and]; rfl
theorem kAct : RepK 15 (Flat actC) := RepK.flat' (by decide) actC_len actC_one
theorem tk_mid {pre vs suf : List Value} {n : Nat} (h : vs.length = n) : Tk pre.length n (pre ++ vs ++ suf) vs := by
  have := Tk.any (off := pre.length) (n := n) (cs := pre ++ vs ++ suf) (by simp; omega)
  rwa [List.append_assoc, List.drop_left, List.take_append_of_le_length (by omega), List.take_of_length_le (by omega), ← List.append_assoc] at this
theorem actC_tok (a : AC) : Tk (0 + 3) 8 (actC a) (tokC a.tok) := tk_mid (pre := [u8V a.kd, u8V a.slot, u8V a.role]) (suf := quoC a.q) (tokC_len a.tok)
theorem actC_q (a : AC) : Tk (0 + 11) 4 (actC a) (quoC a.q) := by
  have := tk_mid (pre := u8V a.kd :: u8V a.slot :: u8V a.role :: tokC a.tok) (vs := quoC a.q) (suf := []) (n := 4) rfl
  rw [List.append_nil] at this
  rwa [show (u8V a.kd :: u8V a.slot :: u8V a.role :: tokC a.tok).length = 0 + 11 by simp [tokC_len]] at this
def doAct (M : CM) (a : AC) : UInt8 × CM :=
  if a.kd = 0 then M.create a.slot a.q else if a.kd = 1 then M.remove a.slot else if a.kd = 2 then M.add a.slot a.tok a.role else if a.kd = 3 then M.drop a.tok else (0, M)
theorem doAct_CI {M : CM} (hI : CI M) (a : AC) : CI (doAct M a).2 := by
  unfold doAct
  split
  · exact create_CI hI _ _
  split
  · exact remove_CI hI _
  split
  · exact add_CI hI _ _ _
  split
  · exact drop_CI hI _
  · exact hI
theorem write_len {M : CM} (hI : CI M) : 5 ≤ M.write.length ∧ M.write.length ≤ 400 := by
  have h1 := hI.len16'
  have h2 := oneL_len (n := M.ps.length) (by unfold M64; omega)
  have h3 := wps_len M.ps
  obtain ⟨a, b, c, d, e⟩ := hI.of_len
  have hq : ∀ q ∈ M.qs, 1 ≤ (wQ q).length ∧ (wQ q).length ≤ 41 := fun q hq => ⟨by unfold wQ; split <;> simp, wQ_len (hI.q q hq)⟩
  rw [e] at hq
  have q1 := hq a (by simp)
  have q2 := hq b (by simp)
  have q3 := hq c (by simp)
  have q4 := hq d (by simp)
  unfold CM.write
  rw [e]
  simp only [List.flatMap_cons, List.flatMap_nil, List.length_append, List.length_nil, List.append_nil]
  rw [h3]
  omega
theorem bne0 {a b : UInt8} (h : ¬ (a.toNat : Int) = b.toNat) : ¬ a = b := fun e => h (by rw [e])
theorem pDoes {R c M a l} (hC : IsC c M l) (hI : CI M) : Tri Try.prog 34 [(.pointer (some ⟨c, 0, none⟩)), .agg (actC a).toArray] R l fun v l' => ∃ c', v = .tuple (List.toArray [.pointer (some ⟨c', 0, none⟩), u8V (doAct M a).1]) ∧ IsC c' (doAct M a).2 l' := by
  have hT1 := actC_tok a
  have hT2 := actC_q a
  have hk0 : (actC a)[0 + 0]? = some (u8V a.kd) := rfl
  have hk1 : (actC a)[0 + 1]? = some (u8V a.slot) := rfl
  have hk2 : (actC a)[0 + 2]? = some (u8V a.role) := rfl
  refine enter Try.func34 rfl rfl (by kernel_rfl) rfl fun w0 => ?_
  refine seq ?_
  refine reg ?_
  refine bx rfl rfl fun b1 => ?_
  refine q (asg rfl) ?_
  refine q (asg rfl) ?_
  refine en ?_
  refine seq ?_
  refine seq ?_
  refine reg ?_
  refine q (fa fo69_0 rfl) ?_
  refine q (ld na5 rfl (by first | exact mR (by assumption) | repeat (first | assumption | exact m0 | apply mS | apply mA)) (by first | rfl | assumption)) ?_
  refine en ?_
  refine blk ?_
  refine seq ?_
  refine reg ?_
  refine q (bEql rfl rfl) ?_
  refine q (asg rfl) ?_
  refine en ?_
  refine ifd rfl (fun h0 => ?_) (fun h0 => ?_)
  · have h0 : a.kd = 0 := UInt8.toNat_inj.1 (by show a.kd.toNat = 0; omega)
    have e : doAct M a = M.create a.slot a.q := by unfold doAct; rw [if_pos h0]
    refine seq ?_
    refine reg ?_
    refine q (mv rfl) ?_
    refine q (mv rfl) ?_
    refine q (fa fo69_1 rfl) ?_
    refine q (ld na5 rfl (by first | exact mR (by assumption) | repeat (first | assumption | exact m0 | apply mS | apply mA)) (by first | rfl | assumption)) ?_
    refine q (fa fo69_4 rfl) ?_
    refine q (ldA ag67 rfl (by first | exact mR (by assumption) | repeat (first | assumption | exact m0 | apply mS | apply mA)) (by first | assumption | repeat constructor)) ?_
    refine clTs [(b1, .cells (actC a).toArray 69 (0, 0))] fb70 rfl (pCreate hC hI) ?_
    rintro _ l2 ⟨rfl, hC2⟩
    refine q (asg rfl) ?_
    refine q (asg rfl) ?_
    refine en ?_
    refine ret (dBr (dSr ?_))
    rw [e]
    exact finQT l2 rfl rfl rfl (fun a => by first | (simp only [cnt_append, cnt_cons, cnt_nil, id]; done) | (simp only [cnt_append, cnt_cons, cnt_nil, id]; omega)) ⟨c, rfl, hC2⟩
  · have h0 : ¬ a.kd = 0 := fun e => h0 (by rw [e]; rfl)
    refine seq ?_
    refine reg ?_
    refine q (bEql rfl rfl) ?_
    refine q (asg rfl) ?_
    refine en ?_
    refine ifd rfl (fun h1 => ?_) (fun h1 => ?_)
    · have h1 : a.kd = 1 := UInt8.toNat_inj.1 (by show a.kd.toNat = 1; omega)
      have e : doAct M a = M.remove a.slot := by unfold doAct; rw [if_neg h0, if_pos h1]
      refine seq ?_
      refine reg ?_
      refine q (mv rfl) ?_
      refine q (mv rfl) ?_
      refine q (fa fo69_1 rfl) ?_
      refine q (ld na5 rfl (by first | exact mR (by assumption) | repeat (first | assumption | exact m0 | apply mS | apply mA)) (by first | rfl | assumption)) ?_
      refine clTs [(b1, .cells (actC a).toArray 69 (0, 0))] fb73 rfl (pRemove hC hI) ?_
      rintro _ l2 ⟨rfl, hC2⟩
      refine q (asg rfl) ?_
      refine q (asg rfl) ?_
      refine en ?_
      refine ret (dBr (dSr ?_))
      rw [e]
      exact finQT l2 rfl rfl rfl (fun a => by first | (simp only [cnt_append, cnt_cons, cnt_nil, id]; done) | (simp only [cnt_append, cnt_cons, cnt_nil, id]; omega)) ⟨c, rfl, hC2⟩
    · have h1 : ¬ a.kd = 1 := fun e => h1 (by rw [e]; rfl)
      refine seq ?_
      refine reg ?_
      refine q (bEql rfl rfl) ?_
      refine q (asg rfl) ?_
      refine en ?_
      refine ifd rfl (fun h2 => ?_) (fun h2 => ?_)
      · have h2 : a.kd = 2 := UInt8.toNat_inj.1 (by show a.kd.toNat = 2; omega)
        have e : doAct M a = M.add a.slot a.tok a.role := by unfold doAct; rw [if_neg h0, if_neg h1, if_pos h2]
        refine seq ?_
        refine reg ?_
        refine q (mv rfl) ?_
        refine q (mv rfl) ?_
        refine q (fa fo69_1 rfl) ?_
        refine q (ld na5 rfl (by first | exact mR (by assumption) | repeat (first | assumption | exact m0 | apply mS | apply mA)) (by first | rfl | assumption)) ?_
        refine q (fa fo69_3 rfl) ?_
        refine q (ldA ag65 rfl (by first | exact mR (by assumption) | repeat (first | assumption | exact m0 | apply mS | apply mA)) (by first | assumption | repeat constructor)) ?_
        refine q (fa fo69_2 rfl) ?_
        refine q (ld na5 rfl (by first | exact mR (by assumption) | repeat (first | assumption | exact m0 | apply mS | apply mA)) (by first | rfl | assumption)) ?_
        refine clTs [(b1, .cells (actC a).toArray 69 (0, 0))] fb71 rfl (pPrincipal hC hI) ?_
        rintro _ l2 ⟨rfl, hC2⟩
        refine q (asg rfl) ?_
        refine q (asg rfl) ?_
        refine en ?_
        refine ret (dBr (dSr ?_))
        rw [e]
        exact finQT l2 rfl rfl rfl (fun a => by first | (simp only [cnt_append, cnt_cons, cnt_nil, id]; done) | (simp only [cnt_append, cnt_cons, cnt_nil, id]; omega)) ⟨c, rfl, hC2⟩
      · have h2 : ¬ a.kd = 2 := fun e => h2 (by rw [e]; rfl)
        refine seq ?_
        refine reg ?_
        refine q (bEql rfl rfl) ?_
        refine q (asg rfl) ?_
        refine en ?_
        refine ifd rfl (fun h3 => ?_) (fun h3 => ?_)
        · have h3 : a.kd = 3 := UInt8.toNat_inj.1 (by show a.kd.toNat = 3; omega)
          have e : doAct M a = M.drop a.tok := by unfold doAct; rw [if_neg h0, if_neg h1, if_neg h2, if_pos h3]
          refine seq ?_
          refine reg ?_
          refine q (mv rfl) ?_
          refine q (mv rfl) ?_
          refine q (fa fo69_3 rfl) ?_
          refine q (ldA ag65 rfl (by first | exact mR (by assumption) | repeat (first | assumption | exact m0 | apply mS | apply mA)) (by first | assumption | repeat constructor)) ?_
          refine clTs [(b1, .cells (actC a).toArray 69 (0, 0))] fb74 rfl (pDrop hC hI) ?_
          rintro _ l2 ⟨rfl, hC2⟩
          refine q (asg rfl) ?_
          refine q (asg rfl) ?_
          refine en ?_
          refine ret (dBr (dSr ?_))
          rw [e]
          exact finQT l2 rfl rfl rfl (fun a => by first | (simp only [cnt_append, cnt_cons, cnt_nil, id]; done) | (simp only [cnt_append, cnt_cons, cnt_nil, id]; omega)) ⟨c, rfl, hC2⟩
        · have h3 : ¬ a.kd = 3 := fun e => h3 (by rw [e]; rfl)
          have e : doAct M a = (0, M) := by unfold doAct; rw [if_neg h0, if_neg h1, if_neg h2, if_neg h3]
          rw [e]
          refine seq ?_
          refine reg ?_
          refine q (bEql rfl rfl) ?_
          refine q (asg rfl) ?_
          refine en ?_
          refine ifd rfl (fun h4 => ?_) (fun h4 => ?_)
          · refine seq ?_
            refine reg ?_
            refine q (mv rfl) ?_
            refine cl0v fb35 rfl (pWrite (hC.rd fun x hx => mS (.inr hx)) hI) ?_
            have hwl := write_len hI
            refine cl0 fb36 rfl (pRead (by omega)) ?_
            rintro _ nw (⟨c', M', hI', hw, rfl, hC'⟩ | ⟨hno, _⟩)
            case inr => exact absurd rfl (hno M hI)
            obtain rfl := write_inj hI' hI hw
            refine q (mv rfl) ?_
            refine q (ext rfl rfl) ?_
            refine q (ext rfl rfl) ?_
            refine q (asg rfl) ?_
            refine q (asg rfl) ?_
            refine en ?_
            refine seq ?_
            refine seq ?_
            refine reg ?_
            refine q (mv rfl) ?_
            refine q (mv rfl) ?_
            refine gT rfl rfl ?_
            refine q (mv rfl) ?_
            refine gT rfl rfl ?_
            refine q (neS rfl rfl rfl (fun w => run_pnil Try.underlying60 w)) ?_
            refine q (by first | exact pkT rfl rfl | exact pkF rfl rfl) ?_
            refine en ?_
            refine ifT rfl ?_
            refine seq ?_
            refine reg ?_
            refine q (mv rfl) ?_
            refine q (asg rfl) ?_
            refine q (asg rfl) ?_
            refine en ?_
            refine ret (dSr (dBr (dSr ?_)))
            exact finQT nw rfl rfl rfl (fun a => by first | (simp only [cnt_append, cnt_cons, cnt_nil, id]; done) | (simp only [cnt_append, cnt_cons, cnt_nil, id]; omega)) ⟨c', rfl, hC'⟩
          · refine skp (dBn (dSq ?_))
            refine seq ?_
            refine reg ?_
            refine q (mv rfl) ?_
            refine q (asg rfl) ?_
            refine q (asg rfl) ?_
            refine en ?_
            refine ret ?_
            exact finQT l rfl rfl rfl (fun a => by first | (simp only [cnt_append, cnt_cons, cnt_nil, id]; done) | (simp only [cnt_append, cnt_cons, cnt_nil, id]; omega)) ⟨c, rfl, hC⟩

