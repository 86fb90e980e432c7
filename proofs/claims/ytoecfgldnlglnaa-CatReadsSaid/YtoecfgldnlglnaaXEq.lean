import Derived.Test.YtoecfgldnlglnaaXEp
import Derived.Test.YtoecfgldnlglnaaXEg
set_option linter.unusedVariables false
set_option linter.unusedSimpArgs false
set_option maxRecDepth 20000
namespace Go.Wk
open Go
/-- A contract that owns nothing, where more may be read. -/
theorem Tri.weak {P f args} {R R' : Rd} {S : Value → Bl → Prop} (h : Tri P f args R [] S) (hR : ∀ b o, R b o → R' b o) : Tri P f args R' [] S := fun w hv => by
  have hv' : Rv R [] w := ⟨hv.nd, hv.own, fun b o hb => hv.rd b o (hR b o hb), fun b o _ hk => by cases hk⟩
  refine (h w hv').mono ?_
  rintro e w' ⟨v, l', he, hS, hw⟩
  refine ⟨v, l', he, hS, { nd := hw.nd, own := hw.own, rd := fun b o hb => ?_, dis := fun b o hb hk => ?_, new := hw.new, ext := hw.ext, size := hw.size, os := hw.os, tape := hw.tape, output := hw.output }⟩
  · rw [hw.ext b (lt_of_get (hv.rd b o hb)) (fun h => by cases h)]; exact hv.rd b o hb
  · have h1 := lt_of_get (hv.rd b o hb)
    rcases hw.new b hk with h2 | h2
    · cases h2
    · omega
end Go.Wk
namespace Go.Proofs.Ytoecfgldnlglnaa
open Go Go.Wk Go.Wk.Num
theorem rGiven {R x} : Tri Try.prog 44 [quoV x] R [] fun v l' => v = quoV x ∧ l' = [] := by
  refine enter Try.func44 rfl rfl (by kernel_rfl) rfl fun w0 => ?_
  refine seq ?_
  refine reg ?_
  refine bx rfl rfl ?_
  intro b1
  refine al zr89 rfl ?_
  intro b2
  refine en ?_
  refine seq ?_
  refine reg ?_
  refine q (fa fo67_0 rfl) ?_
  refine q (ld na3 rfl (by first | exact mR (by assumption) | repeat (first | assumption | exact m0 | apply mS | apply mA)) (by first | rfl | assumption)) ?_
  refine q (fa fo67_1 rfl) ?_
  refine q (ld na3 rfl (by first | exact mR (by assumption) | repeat (first | assumption | exact m0 | apply mS | apply mA)) (by first | rfl | assumption)) ?_
  refine q (fa fo67_2 rfl) ?_
  refine q (ld na3 rfl (by first | exact mR (by assumption) | repeat (first | assumption | exact m0 | apply mS | apply mA)) (by first | rfl | assumption)) ?_
  refine q (fa fo67_3 rfl) ?_
  refine q (ld na3 rfl (by first | exact mR (by assumption) | repeat (first | assumption | exact m0 | apply mS | apply mA)) (by first | rfl | assumption)) ?_
  refine q (bd pl89 rfl (.c1 rfl (by first | decide | simp) rfl (by repeat constructor) (.c1 rfl (by first | decide | simp) rfl (by repeat constructor) (.c1 rfl (by first | decide | simp) rfl (by repeat constructor) (.c1 rfl (by first | decide | simp) rfl (by repeat constructor) .n))))) ?_
  refine stA sz89 rfl rfl rfl rfl (by repeat (first | exact .h | apply In.t | apply In.r)) (by first | assumption | repeat constructor) ?_
  refine en ?_
  refine ret ?_
  exact finZ [] rfl (.agg ag89 rfl m0 (tkAll rfl) .nil) rfl (fun a => by first | (simp only [cnt_append, cnt_cons, cnt_nil, id]; done) | (simp only [cnt_append, cnt_cons, cnt_nil, id]; omega)) ⟨rfl, rfl⟩
theorem rSaid {R v M a} (h : RdT R v M) (hI : CI M) : Tri Try.prog 41 [v, .agg (actC a).toArray] R [] (fun v' nw => ∃ u, v' = .tuple (List.toArray [u, u8V (doAct M a).1]) ∧ RdT (fun b o => R b o ∨ (b, o) ∈ nw) u (doAct M a).2) := by
  have hr0 := h
  obtain ⟨pT, cT, pP, cP, rfl, hTs, hPs⟩ := h.val
  have hT1 := actC_tok a
  have hT2 := actC_q a
  have hk0 : (actC a)[0 + 0]? = some (u8V a.kd) := rfl
  have hk1 : (actC a)[0 + 1]? = some (u8V a.slot) := rfl
  have hk2 : (actC a)[0 + 2]? = some (u8V a.role) := rfl
  refine enter Try.func41 rfl rfl (by kernel_rfl) rfl fun w0 => ?_
  refine seq ?_
  refine reg ?_
  refine bx rfl rfl ?_
  intro b1
  refine bx rfl rfl fun b3 => ?_
  refine al zr85 rfl ?_
  intro b2
  refine q (asg rfl) ?_
  refine en ?_
  refine seq ?_
  refine seq ?_
  refine reg ?_
  refine q (fa fo69_0 rfl) ?_
  refine q (ld na5 rfl (by first | exact mR (by assumption) | repeat (first | assumption | exact m0 | apply mS | apply mA)) (by first | rfl | assumption)) ?_
  refine en ?_
  refine blk ?_
  refine seq ?_
  refine reg ?_
  refine q (bEql rfl rfl) ?_
  refine q (asg rfl) ?_
  refine en ?_
  refine ifd rfl (fun h0 => ?_) (fun h0 => ?_)
  · have h0 : a.kd = 0 := UInt8.toNat_inj.1 (by show a.kd.toNat = 0; omega)
    have e : doAct M a = M.create a.slot a.q := by unfold doAct; rw [if_pos h0]
    rw [e]
    refine seq ?_
    refine drw (by kernel_rfl) [(.q, 0), (.q, 1), (.q, 2), (.q, 3), (.q, 4), (.q, 5), (.b, 6), (.q, 7), (.q, 8), (.s, 9), (.q, 10)] _ rfl (by kernel_rfl) (by kernel_rfl) trivial ?_
    refine xq rfl (ldA ag85 rfl (by first | exact mR (by assumption) | repeat (first | assumption | exact m0 | apply mS | apply mA)) (by first | assumption | repeat constructor)) ?_
    refine xq rfl (fa fo69_1 rfl) ?_
    refine xq rfl (ld na5 rfl (by first | exact mR (by assumption) | repeat (first | assumption | exact m0 | apply mS | apply mA)) (by first | rfl | assumption)) ?_
    refine xq rfl (fa fo69_4 rfl) ?_
    refine xq rfl (ldA ag67 rfl (by first | exact mR (by assumption) | repeat (first | assumption | exact m0 | apply mS | apply mA)) (by first | assumption | repeat constructor)) ?_
    refine xc rfl fb44 rfl (fun F => rGiven.ro) ?_
    refine xb rfl (eC0 fb85 rfl fun R' hR' => (rCreate (s := a.slot) (x := a.q) hr0 hI).weak fun b o h => hR' b o (.inl h)) (fun v l' ⟨nw, e, _⟩ => ⟨nw, e⟩) ?_
    rintro _ _ ⟨nw, rfl, u, rfl, hu⟩
    obtain ⟨pT', cT', pP', cP', rfl, _, _⟩ := hu.val
    refine xq rfl (ext rfl rfl) ?_
    refine xq rfl (ext rfl rfl) ?_
    refine xs rfl (eStA sz85 rfl rfl rfl rfl (by repeat (first | exact .h | apply In.t | apply In.r)) (by first | assumption | repeat constructor)) ?_
    rintro _ _ rfl
    refine xq rfl (asg rfl) ?_
    refine dSq ?_
    refine ret (dBr (dSr ?_))
    exact finZ nw rfl (.agg ag85 rfl (mA m0) (tkAll rfl) (.tmp rfl .nil)) rfl (fun a => by first | (simp only [cnt_append, cnt_cons, cnt_nil, id]; done) | (simp only [cnt_append, cnt_cons, cnt_nil, id]; omega)) ⟨_, rfl, hu⟩
  · have h0 : ¬ a.kd = 0 := fun e => h0 (by rw [e]; rfl)
    refine seq ?_
    refine reg ?_
    refine q (bEql rfl rfl) ?_
    refine q (asg rfl) ?_
    refine en ?_
    refine ifd rfl (fun h1 => ?_) (fun h1 => ?_)
    · have h1 : a.kd = 1 := UInt8.toNat_inj.1 (by show a.kd.toNat = 1; omega)
      have e : doAct M a = M.remove a.slot := by unfold doAct; rw [if_neg h0, if_pos h1]
      rw [e]
      refine seq ?_
      refine reg ?_
      refine q (ldA ag85 rfl (by first | exact mR (by assumption) | repeat (first | assumption | exact m0 | apply mS | apply mA)) (by first | assumption | repeat constructor)) ?_
      refine q (fa fo69_1 rfl) ?_
      refine q (ld na5 rfl (by first | exact mR (by assumption) | repeat (first | assumption | exact m0 | apply mS | apply mA)) (by first | rfl | assumption)) ?_
      refine cl0 fb86 rfl ((rRemove (s := a.slot) hr0 hI).weak fun b o h => .inl h) ?_
      rintro _ nw ⟨u, rfl, hu⟩
      obtain ⟨pT', cT', pP', cP', rfl, _, _⟩ := hu.val
      refine q (ext rfl rfl) ?_
      refine q (ext rfl rfl) ?_
      refine stA sz85 rfl rfl rfl rfl (by repeat (first | exact .h | apply In.t | apply In.r)) (by first | assumption | repeat constructor) ?_
      refine q (asg rfl) ?_
      refine en ?_
      refine ret (dBr (dSr ?_))
      exact finZ nw rfl (.agg ag85 rfl (mA m0) (tkAll rfl) (.tmp rfl .nil)) rfl (fun a => by first | (simp only [cnt_append, cnt_cons, cnt_nil, id]; done) | (simp only [cnt_append, cnt_cons, cnt_nil, id]; omega)) ⟨_, rfl, hu⟩
    · have h1 : ¬ a.kd = 1 := fun e => h1 (by rw [e]; rfl)
      refine seq ?_
      refine reg ?_
      refine q (bEql rfl rfl) ?_
      refine q (asg rfl) ?_
      refine en ?_
      refine ifd rfl (fun h2 => ?_) (fun h2 => ?_)
      · have h2 : a.kd = 2 := UInt8.toNat_inj.1 (by show a.kd.toNat = 2; omega)
        have e : doAct M a = M.add a.slot a.tok a.role := by unfold doAct; rw [if_neg h0, if_neg h1, if_pos h2]
        rw [e]
        refine seq ?_
        refine reg ?_
        refine q (ldA ag85 rfl (by first | exact mR (by assumption) | repeat (first | assumption | exact m0 | apply mS | apply mA)) (by first | assumption | repeat constructor)) ?_
        refine q (fa fo69_1 rfl) ?_
        refine q (ld na5 rfl (by first | exact mR (by assumption) | repeat (first | assumption | exact m0 | apply mS | apply mA)) (by first | rfl | assumption)) ?_
        refine q (fa fo69_3 rfl) ?_
        refine q (ldA ag65 rfl (by first | exact mR (by assumption) | repeat (first | assumption | exact m0 | apply mS | apply mA)) (by first | assumption | repeat constructor)) ?_
        refine q (fa fo69_2 rfl) ?_
        refine q (ld na5 rfl (by first | exact mR (by assumption) | repeat (first | assumption | exact m0 | apply mS | apply mA)) (by first | rfl | assumption)) ?_
        refine cl0 fb87 rfl ((rAdd (s := a.slot) (t := a.tok) (r := a.role) hr0 hI).weak fun b o h => .inl h) ?_
        rintro _ nw ⟨u, rfl, hu⟩
        obtain ⟨pT', cT', pP', cP', rfl, _, _⟩ := hu.val
        refine q (ext rfl rfl) ?_
        refine q (ext rfl rfl) ?_
        refine stA sz85 rfl rfl rfl rfl (by repeat (first | exact .h | apply In.t | apply In.r)) (by first | assumption | repeat constructor) ?_
        refine q (asg rfl) ?_
        refine en ?_
        refine ret (dBr (dSr ?_))
        exact finZ nw rfl (.agg ag85 rfl (mA m0) (tkAll rfl) (.tmp rfl .nil)) rfl (fun a => by first | (simp only [cnt_append, cnt_cons, cnt_nil, id]; done) | (simp only [cnt_append, cnt_cons, cnt_nil, id]; omega)) ⟨_, rfl, hu⟩
      · have h2 : ¬ a.kd = 2 := fun e => h2 (by rw [e]; rfl)
        refine seq ?_
        refine reg ?_
        refine q (bEql rfl rfl) ?_
        refine q (asg rfl) ?_
        refine en ?_
        refine ifd rfl (fun h3 => ?_) (fun h3 => ?_)
        · have h3 : a.kd = 3 := UInt8.toNat_inj.1 (by show a.kd.toNat = 3; omega)
          have e : doAct M a = M.drop a.tok := by unfold doAct; rw [if_neg h0, if_neg h1, if_neg h2, if_pos h3]
          rw [e]
          refine seq ?_
          refine reg ?_
          refine q (ldA ag85 rfl (by first | exact mR (by assumption) | repeat (first | assumption | exact m0 | apply mS | apply mA)) (by first | assumption | repeat constructor)) ?_
          refine q (fa fo69_3 rfl) ?_
          refine q (ldA ag65 rfl (by first | exact mR (by assumption) | repeat (first | assumption | exact m0 | apply mS | apply mA)) (by first | assumption | repeat constructor)) ?_
          refine cl0 fb88 rfl ((rDrop (t := a.tok) hr0 hI).weak fun b o h => .inl h) ?_
          rintro _ nw ⟨u, rfl, hu⟩
          obtain ⟨pT', cT', pP', cP', rfl, _, _⟩ := hu.val
          refine q (ext rfl rfl) ?_
          refine q (ext rfl rfl) ?_
          refine stA sz85 rfl rfl rfl rfl (by repeat (first | exact .h | apply In.t | apply In.r)) (by first | assumption | repeat constructor) ?_
          refine q (asg rfl) ?_
          refine en ?_
          refine ret (dBr (dSr ?_))
          exact finZ nw rfl (.agg ag85 rfl (mA m0) (tkAll rfl) (.tmp rfl .nil)) rfl (fun a => by first | (simp only [cnt_append, cnt_cons, cnt_nil, id]; done) | (simp only [cnt_append, cnt_cons, cnt_nil, id]; omega)) ⟨_, rfl, hu⟩
        · have h3 : ¬ a.kd = 3 := fun e => h3 (by rw [e]; rfl)
          have e : doAct M a = (0, M) := by unfold doAct; rw [if_neg h0, if_neg h1, if_neg h2, if_neg h3]
          rw [e]
          refine skp (dBn (dSq ?_))
          refine seq ?_
          refine reg ?_
          refine q (ldA ag85 rfl (by first | exact mR (by assumption) | repeat (first | assumption | exact m0 | apply mS | apply mA)) (by first | assumption | repeat constructor)) ?_
          refine stA sz85 rfl rfl rfl rfl (by repeat (first | exact .h | apply In.t | apply In.r)) (by first | assumption | repeat constructor) ?_
          refine q (asg rfl) ?_
          refine en ?_
          refine ret ?_
          exact finZ [] rfl (.agg ag85 rfl m0 (tkAll rfl) (.tmp rfl .nil)) rfl (fun a => by first | (simp only [cnt_append, cnt_cons, cnt_nil, id]; done) | (simp only [cnt_append, cnt_cons, cnt_nil, id]; omega)) ⟨_, rfl, hr0.mono fun b o h => .inl h⟩

