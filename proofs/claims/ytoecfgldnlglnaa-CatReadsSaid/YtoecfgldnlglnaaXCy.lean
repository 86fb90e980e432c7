import Derived.Test.YtoecfgldnlglnaaXCx
set_option linter.unusedVariables false
set_option linter.unusedSimpArgs false
set_option maxRecDepth 20000
namespace Go.Wk
open Go
section
variable {c : Cx} {e : Env} {l : Bl}
/-- A call that takes some of the blocks, as an effect. -/
theorem eClQ {d : Option Tmp} {xs : List Operand} {ts : Array TypeId} {vs : List Value} {f : FuncId} {S : Value → Bl → Prop} (hf : Fb c.P f) (hx : evl e xs = some vs) (l₁ F : Bl) (p : ∀ a, cnt a l = cnt a (l₁ ++ F))
    (ht : ∀ R : Rd, (∀ b o, c.R b o → R b o) → (∀ x ∈ F, R x.1 x.2) → Tri c.P f vs R l₁ S) : Ef c l d (.call ⟨.value (.func f), xs.toArray, ts⟩) e fun v l' => ∃ l₂, l' = l₂ ++ F ∧ S v l₂ :=
  eCl hf hx fun G => ((ht (fun b o => (c.R b o ∨ (b, o) ∈ G) ∨ (b, o) ∈ F) (fun b o h => .inl (.inl h)) (fun x hx => .inr hx)).frame (R := fun b o => c.R b o ∨ (b, o) ∈ G) F).perm (permC p)
end
end Go.Wk
namespace Go.Proofs.Ytoecfgldnlglnaa
open Go Go.Wk Go.Wk.Num
theorem create_ps (M : CM) (s : UInt8) (x : Quo) : (M.create s x).2.ps = M.ps := by
  unfold CM.create
  split
  · rfl
  split
  · rfl
  split <;> rfl
theorem skip_step {M : CM} (hM : CI M) {i : Nat} (hi : i < 4) (h : M.q i = Q0) : M.qs.take i ++ List.replicate (4 - i) Q0 = M.qs.take (i + 1) ++ List.replicate (4 - (i + 1)) Q0 := by
  obtain ⟨a, b, c, d, e⟩ := hM.of_len
  unfold CM.q at h
  rw [e] at h ⊢
  match i, hi with
  | 0, _ | 1, _ | 2, _ | 3, _ => simp at h; simp [List.replicate, h]
theorem create_step {M M' : CM} (hM : CI M) (hps : M'.ps = []) {i : Nat} (hi : i < 4) (hqs : M'.qs = M.qs.take i ++ List.replicate (4 - i) Q0) (hr : (M.q i).right) :
    (M'.create (UInt8.ofNat i) (M.q i)).1 = 0 ∧ (M'.create (UInt8.ofNat i) (M.q i)).2.qs = M.qs.take (i + 1) ++ List.replicate (4 - (i + 1)) Q0 := by
  have hn : (UInt8.ofNat i).toNat = i := u8_ofNat (by omega)
  have hb := fun j => hM.qbd j
  have hsum := hM.sum
  have h0 : ¬ M'.there (UInt8.ofNat i) := by
    unfold CM.there CM.q
    rw [hn, hqs]
    obtain ⟨a, b, c, d, e⟩ := hM.of_len
    rw [e]
    match i, hi with
    | 0, _ | 1, _ | 2, _ | 3, _ => simp [Q0, List.replicate]
  have hfit : M'.fits (M.q i) := by
    unfold CM.fits CM.q
    rw [hqs]
    obtain ⟨a, b, c, d, e⟩ := hM.of_len
    have b0 := hb 0
    have b1 := hb 1
    have b2 := hb 2
    have b3 := hb 3
    rw [e] at hsum b0 b1 b2 b3 ⊢
    simp [sumK, sumB, sumR] at hsum b0 b1 b2 b3
    match i, hi with
    | 0, _ | 1, _ | 2, _ | 3, _ => simp [sumK, sumB, sumR, Q0, List.replicate] <;> omega
  unfold CM.create
  rw [hn, if_neg (by simp [hr]; omega), if_neg h0, if_neg (by simpa using hfit)]
  refine ⟨rfl, ?_⟩
  simp only
  rw [hqs]
  unfold CM.q
  obtain ⟨a, b, c, d, e⟩ := hM.of_len
  rw [e]
  match i, hi with
  | 0, _ | 1, _ | 2, _ | 3, _ => simp [List.replicate]
theorem ins_last {x : Prn} : ∀ {ps : List Prn}, (∀ q ∈ ps, tlt q.tok x.tok = true) → ins x ps = ps ++ [x]
  | [], _ => rfl
  | p :: ps, h => by
    have h1 := sLt_asymm (h p (List.mem_cons_self ..))
    rw [ins, if_neg (by rw [show tlt x.tok p.tok = sLt x.tok.1 p.tok.1 from rfl, h1]; decide), ins_last fun q hq => h q (List.mem_cons_of_mem _ hq)]; rfl
theorem add_step {M M' : CM} (hM : CI M) (hqs : M'.qs = M.qs) {j : Nat} (hps : M'.ps = M.ps.take j) {p : Prn} (hp : M.ps[j]? = some p) :
    (M'.add p.slot p.tok p.role).2 = ⟨M.qs, M.ps.take (j + 1)⟩ := by
  obtain ⟨h1, h2, h3, h4, h5⟩ := hM.p p (List.mem_of_getElem? hp)
  have hj := (List.getElem?_eq_some_iff.1 hp).1
  have htk : M.ps.take (j + 1) = M.ps.take j ++ [p] := by rw [List.take_succ_eq_append_getElem hj, (List.getElem?_eq_some_iff.1 hp).2]
  have hlt : ∀ q ∈ M.ps.take j, tlt q.tok p.tok = true := fun q hq => by
    have hsd := hM.sd.sublist (List.take_sublist (j + 1) M.ps)
    rw [htk] at hsd
    exact (List.pairwise_append.1 hsd).2.2 q hq p (List.mem_singleton.2 rfl)
  have hnone : look M'.ps p.tok = Option.none := look_none fun q hq e => by
    rw [hps] at hq
    exact sLt_ne (hlt q hq) (congrArg Subtype.val e)
  have hth : M'.there p.slot := by unfold CM.there CM.q at h2 ⊢; rw [hqs]; exact h2
  have hmany : M'.many p.slot < 4 := by
    have h6 := hM.many p.slot
    have h7 : (M.ps.take (j + 1)).countP (·.slot = p.slot) ≤ M.ps.countP (·.slot = p.slot) := List.Sublist.countP_le (List.take_sublist _ _)
    rw [htk, List.countP_append, List.countP_singleton, if_pos (by simp)] at h7
    unfold CM.many at h6 ⊢
    rw [hps]; omega
  unfold CM.add
  rw [if_neg (by rintro (h | h | h | h) <;> first | omega | exact h5 h), if_neg (by simpa using hth), if_neg (by rw [hnone]; decide), if_neg (by omega)]
  simp only
  rw [hps, ins_last hlt, htk, hqs]
def RdRes (s : List UInt8) (v : Value) (l : Bl) : Prop := (∃ c M, CI M ∧ M.write = s ∧ v = .tuple (List.toArray [(.pointer (some ⟨c, 0, none⟩)), .bool true]) ∧ IsC c M l) ∨ ((∀ M, CI M → M.write ≠ s) ∧ v = .tuple (List.toArray [.pointer none, .bool false]))
theorem pCreateN {R c M x l} {i : Nat} (hC : IsC c M l) (hI : CI M) (hi : i < 4) : Tri Try.prog 70 [(.pointer (some ⟨c, 0, none⟩)), .int .u8 (i : Nat), quoV x] R l fun v l' => v = u8V (M.create (UInt8.ofNat i) x).1 ∧ IsC c (M.create (UInt8.ofNat i) x).2 l' := by
  have h1 : (UInt8.ofNat i).toNat = i := u8_ofNat (by omega)
  have h2 := pCreate (R := R) (s := UInt8.ofNat i) (x := x) hC hI
  rwa [show u8V (UInt8.ofNat i) = .int .u8 (i : Nat) by unfold u8V; rw [h1]] at h2
theorem pRead {R s} (hs : s.length ≤ 1000000000000) : Tri Try.prog 36 [bs s] R [] fun v l' => RdRes s v l' := by
  refine enter Try.func36 rfl rfl (by kernel_rfl) rfl fun w0 => ?_
  refine seq ?_
  refine reg ?_
  refine q (asg rfl) ?_
  refine q (asg rfl) ?_
  refine en ?_
  refine seq ?_
  refine reg ?_
  refine cl0 fb33 rfl pNew ?_
  rintro _ lC ⟨c, rfl, hC⟩
  rw [List.append_nil]
  refine q (asg rfl) ?_
  refine en ?_
  refine seq ?_
  refine reg ?_
  refine q (mv rfl) ?_
  refine q (asg rfl) ?_
  refine en ?_
  refine seq ?_
  refine seq ?_
  refine reg ?_
  refine q (mv rfl) ?_
  refine en ?_
  refine blk ?_
  refine cSub (e' := [(0, bs s), (4, (.pointer (some ⟨c, 0, none⟩))), (5, bs s), (16, .int .u8 (0 : Nat))]) (by repeat first | exact Sub.nil | refine Sub.cons rfl ?_) ?_
  refine loop (fun m' e l => ∃ (i : Nat) (M' : CM) (rest : List UInt8), m' = 4 - i ∧ i ≤ 4 ∧ IsC c M' l ∧ CI M' ∧ M'.ps = [] ∧ rest.length ≤ s.length ∧ (∀ M, CI M → M.write = s → rest = M.tail i ∧ M'.qs = M.qs.take i ++ List.replicate (4 - i) Q0) ∧ e = [(0, bs s), (4, (.pointer (some ⟨c, 0, none⟩))), (5, bs rest), (16, .int .u8 (i : Nat))]) 4 ⟨0, _, s, rfl, by omega, hC, CI.none, rfl, Nat.le_refl _, fun M hM h => ⟨h.symm, rfl⟩, rfl⟩ ?_
  rintro m' _ l ⟨i, M', rest, rfl, hi, hC, hI, hps, hrl, hcond, rfl⟩
  refine seq ?_
  refine reg ?_
  refine q (bLss rfl rfl) ?_
  refine en ?_
  refine seq ?_
  refine ifd rfl (fun hlt => ?_) (fun hlt => ?_)
  · have hlt : i < 4 := by omega
    refine skp (dSq ?_)
    refine seq ?_
    refine blk ?_
    refine seq ?_
    refine reg ?_
    refine q (mv rfl) ?_
    refine q (asg rfl) ?_
    refine en ?_
    refine seq ?_
    refine seq ?_
    refine reg ?_
    refine q (mv rfl) ?_
    refine q (sEql rfl rfl) ?_
    refine en ?_
    refine ifd rfl (fun he => ?_) (fun he => ?_)
    · have he : rest = [] := bs_inj.1 he
      subst he
      refine seq ?_
      refine reg ?_
      refine q (asg rfl) ?_
      refine q (asg rfl) ?_
      refine en ?_
      refine ret (dSr (dBr (dSr (dLr (dBr (dSr ?_))))))
      refine finQT [] rfl rfl rfl (fun a => by first | (simp only [cnt_append, cnt_cons, cnt_nil, id]; done) | (simp only [cnt_append, cnt_cons, cnt_nil, id]; omega)) (.inr ⟨fun M hM hw => ?_, rfl⟩)
      have h1 := (hcond M hM hw).1
      rw [tail_succ hM hlt] at h1
      rcases hM.qcase i with h2 | h2
      · rw [h2, show wQ Q0 = [0] by unfold wQ; rw [if_neg (by simp [Q0])]] at h1; simp at h1
      · unfold Quo.right at h2
        unfold wQ at h1; rw [if_pos (by omega)] at h1; simp at h1
    · obtain ⟨b0, rt, rfl⟩ : ∃ b0 rt, rest = b0 :: rt := by
        cases rest with
        | nil => exact absurd rfl he
        | cons b0 rt => exact ⟨_, _, rfl⟩
      simp only [List.length_cons] at hrl
      refine skp (dSq ?_)
      refine seq ?_
      refine reg ?_
      refine q (mv rfl) ?_
      refine q (sIx (u := b0) Try.underlying9 rfl rfl (by omega) rfl) ?_
      refine q (bEql rfl rfl) ?_
      refine q (asg rfl) ?_
      refine en ?_
      refine seq ?_
      refine reg ?_
      refine q (mv rfl) ?_
      refine q (slT (L := 1) (H := rt.length + 1) Try.underlying9 rfl rfl (by show _ = _; rw [bs_size]; rfl) (by omega) (by rw [bs_size]; exact Nat.le_refl _)) ?_
      rw [bs_extract, List.take_of_length_le (by simp), show List.drop 1 (b0 :: rt) = rt from rfl]
      refine q (asg rfl) ?_
      refine en ?_
      refine seq ?_
      refine seq ?_
      refine reg ?_
      refine q (mv rfl) ?_
      refine q (by first | exact bNotd rfl | exact bNot rfl) ?_
      refine en ?_
      have hcs : ∀ M, CI M → M.write = s → (M.q i = Q0 ∧ b0 = 0 ∧ rt = M.tail (i + 1)) ∨ ((M.q i).right ∧ b0 = 1 ∧ rt = numV (numsQ (M.q i)) ++ M.tail (i + 1)) := fun M hM hw => by
        have h1 := (hcond M hM hw).1
        rw [tail_succ hM hlt] at h1
        rcases hM.qcase i with h2 | h2
        · rw [h2, show wQ Q0 = [0] by unfold wQ; rw [if_neg (by simp [Q0])]] at h1
          simp at h1; exact .inl ⟨h2, h1⟩
        · have h3 := h2
          unfold Quo.right at h3
          unfold wQ at h1; rw [if_pos (by omega)] at h1
          simp at h1; exact .inr ⟨h2, by simpa using h1⟩
      refine ifd rfl (fun hb => ?_) (fun hb => ?_)
      · refine exi (dSe (dBe (dSq ?_)))
        refine reg ?_
        refine q (addN i 1 (i + 1) rfl rfl (by rw [u8_mod]; congr 1; omega)) ?_
        refine q (mv rfl) ?_
        refine enD ?_
        refine dLp (m' := 4 - (i + 1)) (e' := [(0, bs s), (4, (.pointer (some ⟨c, 0, none⟩))), (5, bs rt), (16, .int .u8 ((i + 1 : Nat) : Int))]) (by omega) (by repeat first | exact Sub.nil | refine Sub.cons rfl ?_) ⟨i + 1, M', rt, rfl, by omega, hC, hI, hps, by omega, fun M hM hw => ?_, rfl⟩
        rcases hcs M hM hw with ⟨h1, h2, h3⟩ | ⟨h1, h2, h3⟩
        · exact ⟨h3, by rw [(hcond M hM hw).2, skip_step hM hlt h1]⟩
        · exact absurd (by rw [h2]; rfl) hb
      · have hb1 : b0 = 1 := by
          have hb : (b0.toNat : Int) = 1 := by simpa using hb
          apply UInt8.toNat_inj.1
          show b0.toNat = 1
          omega
        refine skp (dSq ?_)
        refine seq ?_
        refine reg ?_
        refine al zr67 rfl ?_
        intro b1
        refine en ?_
        refine seq ?_
        refine reg ?_
        refine q (mv rfl) ?_
        refine cl0v fb82 rfl (pQuotaR (by omega)) ?_
        have hql : (quoR rt).2.length ≤ rt.length := by rw [quoR_eq]; exact qrest_len rt 4
        refine q (mv rfl) ?_
        refine q (ext rfl rfl) ?_
        refine q (ext rfl rfl) ?_
        refine stA sz67 rfl rfl rfl rfl (by repeat (first | exact .h | apply In.t | apply In.r)) (by first | assumption | repeat constructor) ?_
        refine q (asg rfl) ?_
        refine en ?_
        refine seq ?_
        refine reg ?_
        refine q (mv rfl) ?_
        refine q (mv rfl) ?_
        refine q (ldA ag67 rfl (by first | exact mR (by assumption) | repeat (first | assumption | exact m0 | apply mS | apply mA)) (by first | assumption | repeat constructor)) ?_
        refine clTs [(b1, .cells (quoC (quoR rt).1).toArray 67 (0, 0))] fb70 rfl (pCreateN hC hI hlt) ?_
        rintro _ l2 ⟨rfl, hC2⟩
        refine q (bNeq rfl rfl) ?_
        refine en ?_
        refine ifd rfl (fun hne => ?_) (fun hne => ?_)
        · refine seq ?_
          refine reg ?_
          refine q (asg rfl) ?_
          refine q (asg rfl) ?_
          refine en ?_
          refine ret (dBr (dSr (dLr (dBr (dSr ?_)))))
          refine finQT [] rfl rfl rfl (fun a => by first | (simp only [cnt_append, cnt_cons, cnt_nil, id]; done) | (simp only [cnt_append, cnt_cons, cnt_nil, id]; omega)) (.inr ⟨fun M hM hw => ?_, rfl⟩)
          rcases hcs M hM hw with ⟨h1, h2, h3⟩ | ⟨h1, h2, h3⟩
          · rw [hb1] at h2; cases h2
          · rw [h3, quoR_app h1] at hne
            exact hne (by rw [(create_step hM hps hlt (hcond M hM hw).2 h1).1]; rfl)
        · refine skp (dBn (dSq ?_))
          refine reg ?_
          refine q (addN i 1 (i + 1) rfl rfl (by rw [u8_mod]; congr 1; omega)) ?_
          refine q (mv rfl) ?_
          refine enD ?_
          refine dSub l2 (fun a => by first | (simp only [cnt_append, cnt_cons, cnt_nil, id]; done) | (simp only [cnt_append, cnt_cons, cnt_nil, id]; omega)) (dLp (m' := 4 - (i + 1)) (e' := [(0, bs s), (4, (.pointer (some ⟨c, 0, none⟩))), (5, bs (quoR rt).2), (16, .int .u8 ((i + 1 : Nat) : Int))]) (by omega) (by repeat first | exact Sub.nil | refine Sub.cons rfl ?_) ⟨i + 1, _, (quoR rt).2, rfl, by omega, hC2, create_CI hI _ _, by rw [create_ps]; exact hps, by omega, fun M hM hw => ?_, rfl⟩)
          rcases hcs M hM hw with ⟨h1, h2, h3⟩ | ⟨h1, h2, h3⟩
          · rw [hb1] at h2; cases h2
          · rw [h3, quoR_app h1]
            exact ⟨rfl, (create_step hM hps hlt (hcond M hM hw).2 h1).2⟩
  · have h4 : i = 4 := by omega
    subst h4
    have hrk := rK_le rest
    refine exi (dSe (dLe (dBe (dSq ?_))))
    refine seq ?_
    refine reg ?_
    refine q (mv rfl) ?_
    refine cl0v fb83 rfl (nReadV (by omega)) ?_
    refine q (mv rfl) ?_
    refine q (ext rfl rfl) ?_
    refine q (ext rfl rfl) ?_
    refine q (ext rfl rfl) ?_
    refine q (asg rfl) ?_
    refine q (asg rfl) ?_
    refine q (asg rfl) ?_
    refine en ?_
    refine seq ?_
    refine reg ?_
    refine q (mv rfl) ?_
    refine q (mv rfl) ?_
    refine q (slT (L := rK rest) (H := rest.length) Try.underlying9 rfl rfl (by show _ = _; rw [bs_size]) hrk.1 (by rw [bs_size]; exact Nat.le_refl _)) ?_
    rw [bs_extract, List.take_of_length_le (by rw [List.length_drop]; exact Nat.le_refl _)]
    refine q (asg rfl) ?_
    refine en ?_
    refine seq ?_
    refine blk ?_
    have hp0 : ∀ M, CI M → M.write = s → M'.qs = M.qs ∧ rN rest = M.ps.length ∧ rest.drop (rK rest) = M.ps.flatMap wP := fun M hM hw => by
      obtain ⟨h1, h2⟩ := hcond M hM hw
      rw [tail_four hM] at h1
      have h3 := hM.len16'
      obtain ⟨r1, r2, r3⟩ := r_app (n := M.ps.length) (by unfold M64; omega) (M.ps.flatMap wP)
      rw [← h1] at r1 r2 r3
      refine ⟨by rw [h2, List.take_of_length_le (by rw [hM.len]; exact Nat.le_refl _)]; simp, r1, ?_⟩
      rw [r2, h1, List.drop_left]
    refine cSub (e' := [(0, bs s), (4, (.pointer (some ⟨c, 0, none⟩))), (5, bs (rest.drop (rK rest))), (9, .int .u64 (rN rest : Nat))]) (by repeat first | exact Sub.nil | refine Sub.cons rfl ?_) ?_
    refine loop (fun m' e l => ∃ (M1 : CM) (rt : List UInt8) (many j : Nat), m' = rt.length ∧ IsC c M1 l ∧ CI M1 ∧ rt.length ≤ s.length ∧ many < M64 ∧ (∀ M, CI M → M.write = s → M1.qs = M.qs ∧ M1.ps = M.ps.take j ∧ rt = (M.ps.drop j).flatMap wP ∧ many = M.ps.length - j) ∧ e = [(0, bs s), (4, (.pointer (some ⟨c, 0, none⟩))), (5, bs rt), (9, .int .u64 (many : Nat))]) (rest.drop (rK rest)).length ⟨M', _, _, 0, rfl, hC, hI, by rw [List.length_drop]; omega, hrk.2.1, fun M hM hw => ?_, rfl⟩ ?_
    · obtain ⟨h1, h2, h3⟩ := hp0 M hM hw
      exact ⟨h1, by rw [hps]; rfl, h3, h2⟩
    rintro m' _ l ⟨M1, rt, many, j, rfl, hC, hI, hrtl, hmany, hcond, rfl⟩
    have hsz := bs_size rt
    have hend : (many = 0 ∨ rt.length < 10) → ∀ M, CI M → M.write = s → M1 = M := fun h M hM hw => by
      obtain ⟨h1, h2, h3, h4⟩ := hcond M hM hw
      have h5 := wps_len (M.ps.drop j)
      rw [← h3, List.length_drop] at h5
      have h6 : M.ps.length ≤ j := by omega
      rw [List.take_of_length_le h6] at h2
      obtain ⟨a, b⟩ := M1
      obtain ⟨a', b'⟩ := M
      simp at h1 h2
      rw [h1, h2]
    refine seq ?_
    refine seq ?_
    refine reg ?_
    refine q (mv rfl) ?_
    refine q (bGtr rfl rfl) ?_
    refine q (mv rfl) ?_
    refine decd (t := 50) rfl (fun hm0 => ?_) (fun hm0 => ?_)
    · refine gT rfl rfl ?_
      refine q (mv rfl) ?_
      refine gT rfl rfl ?_
      refine q (lnS Try.underlying9 rfl) ?_
      refine gT rfl rfl ?_
      refine q (bGeq rfl rfl) ?_
      refine q (by first | exact pkT rfl rfl | exact pkF rfl rfl) ?_
      refine en ?_
      refine ifd rfl (fun h10 => ?_) (fun h10 => ?_)
      · have h10 : 10 ≤ rt.length := by omega
        obtain ⟨b8, hb8⟩ : ∃ b, rt[8]? = some b := ⟨_, List.getElem?_eq_getElem (by omega)⟩
        obtain ⟨b9, hb9⟩ : ∃ b, rt[9]? = some b := ⟨_, List.getElem?_eq_getElem (by omega)⟩
        have h8 : (rt.take 8).length = 8 := by rw [List.length_take]; omega
        have hsz8 : (⟨(rt.take 8).toArray⟩ : ByteArray).size = 8 := by rw [bs_size]; exact h8
        obtain ⟨tk, htk⟩ : ∃ tk : Tok, tk = ⟨⟨(rt.take 8).toArray⟩, hsz8⟩ := ⟨_, rfl⟩
        have htkC : tokC tk = u8s (rt.take 8) := by rw [htk]; rfl
        have htkB : tokB tk = rt.take 8 := by rw [htk]; rfl
        refine skp (dSq ?_)
        refine seq ?_
        refine blk ?_
        refine seq ?_
        refine reg ?_
        refine al zr65 rfl ?_
        intro b2
        refine en ?_
        refine seq ?_
        refine reg ?_
        refine q (slA (L := 0) (H := 8) Try.underlying65 sz5 rfl rfl rfl (by omega) (by omega) (by omega)) ?_
        refine q (mv rfl) ?_
        refine eo (eCpS (s := rt) (cs' := tokC tk) Try.underlying136 sz5 rfl rfl .h (by show UpM _ 0 (u8s (rt.take 8)) _; rw [htkC]; exact upAll (by rw [List.length_map, h8]; rfl))) ?_
        rintro _ _ ⟨rfl, rfl⟩
        rw [show min rt.length 8 = 8 by omega]
        have hTk : Tk 0 8 (tokC tk) (tokC tk) := tkAll (tokC_len tk)
        refine q (asg rfl) ?_
        refine en ?_
        refine seq ?_
        refine drw (by kernel_rfl) [(.q, 0), (.q, 1), (.q, 2), (.q, 3), (.q, 4), (.q, 5), (.q, 6), (.q, 7), (.q, 8), (.s, 9)] _ rfl (by kernel_rfl) (by kernel_rfl) trivial ?_
        refine xq rfl (mv rfl) ?_
        refine xq rfl (mv rfl) ?_
        refine xq rfl (mv rfl) ?_
        refine xq rfl (sIx (u := b8) Try.underlying9 rfl rfl (by omega) hb8) ?_
        refine xq rfl (ldA ag65 rfl (by first | exact mR (by assumption) | repeat (first | assumption | exact m0 | apply mS | apply mA)) (by first | assumption | repeat constructor)) ?_
        refine xq rfl (mv rfl) ?_
        refine xq rfl (mv rfl) ?_
        refine xq rfl ((by first | exact bAddi rfl rfl (by omega) | exact bAdd rfl rfl)) ?_
        refine xq rfl (sIx (u := b9) Try.underlying9 rfl rfl (by omega) hb9) ?_
        refine xs rfl (eClQ fb71 rfl l [(b2, .cells (tokC tk).toArray 65 (0, 0))] (fun a => by first | (simp only [cnt_append, cnt_cons, cnt_nil, id]; done) | (simp only [cnt_append, cnt_cons, cnt_nil, id]; omega)) (fun R' _ _ => pPrincipal (s := b8) (t := tk) (r := b9) hC hI)) ?_
        rintro _ _ ⟨l2, rfl, rfl, hC2⟩
        refine dSq ?_
        refine reg ?_
        refine q (mv rfl) ?_
        refine q (slT (L := 10) (H := rt.length) Try.underlying9 rfl rfl (by show _ = _; rw [bs_size]) h10 (by rw [bs_size]; exact Nat.le_refl _)) ?_
        rw [bs_extract, List.take_of_length_le (by rw [List.length_drop]; exact Nat.le_refl _)]
        refine q (asg rfl) ?_
        refine enD (dBn (dSq ?_))
        refine reg ?_
        refine q (mv rfl) ?_
        unfold M64 at hmany
        refine q ((bSub rfl rfl).to (u := .int .u64 ((many - 1 : Nat) : Int)) (by rw [show (many : Int) - 1 = ((many - 1 : Nat) : Int) by omega, u64_mod]; congr 2; omega)) ?_
        refine q (asg rfl) ?_
        refine enD ?_
        refine dSub l2 (fun a => by first | (simp only [cnt_append, cnt_cons, cnt_nil, id]; done) | (simp only [cnt_append, cnt_cons, cnt_nil, id]; omega)) (dLp (m' := (rt.drop 10).length) (e' := [(0, bs s), (4, (.pointer (some ⟨c, 0, none⟩))), (5, bs (rt.drop 10)), (9, .int .u64 ((many - 1 : Nat) : Int))]) (by rw [List.length_drop]; omega) (by repeat first | exact Sub.nil | refine Sub.cons rfl ?_) ⟨_, rt.drop 10, many - 1, j + 1, rfl, hC2, add_CI hI _ _ _, by rw [List.length_drop]; omega, by unfold M64; omega, fun M hM hw => ?_, rfl⟩)
        obtain ⟨h1, h2, h3, h4⟩ := hcond M hM hw
        have hjl : j < M.ps.length := by omega
        have hp := List.getElem?_eq_getElem hjl
        generalize M.ps[j] = p at hp
        have hd : M.ps.drop j = p :: M.ps.drop (j + 1) := by rw [List.drop_eq_getElem_cons hjl, (List.getElem?_eq_some_iff.1 hp).2]
        rw [hd, List.flatMap_cons] at h3
        have ht : p.tok = tk := by
          apply Subtype.ext; apply ByteArray.ext; apply Array.toList_inj.1
          show tokB p.tok = tokB tk
          rw [htkB, h3, List.take_append_of_le_length (by rw [wP_len]; decide)]
          unfold wP
          rw [List.take_append_of_le_length (by rw [tokB_len]; decide), List.take_of_length_le (by rw [tokB_len]; decide)]
        have h8' : p.slot = b8 := by
          rw [h3, List.getElem?_append_left (by rw [wP_len]; decide)] at hb8
          unfold wP at hb8
          rw [List.getElem?_append_right (by rw [tokB_len]; decide), tokB_len] at hb8
          simpa using hb8
        have h9' : p.role = b9 := by
          rw [h3, List.getElem?_append_left (by rw [wP_len]; decide)] at hb9
          unfold wP at hb9
          rw [List.getElem?_append_right (by rw [tokB_len]; decide), tokB_len] at hb9
          simpa using hb9
        have hadd := add_step hM h1 h2 hp
        rw [ht, h8', h9'] at hadd
        rw [hadd]
        refine ⟨rfl, rfl, ?_, by omega⟩
        rw [h3, List.drop_append_of_le_length (by rw [wP_len]; decide), List.drop_of_length_le (by rw [wP_len]; decide)]; rfl
      · refine exi (dSe (dLe (dBe (dSq ?_))))
        refine seq ?_
        refine seq ?_
        refine reg ?_
        refine q (mv rfl) ?_
        refine cl0v fb35 rfl (pWrite (hC.rd fun x hx => .inr hx) hI) ?_
        refine q (mv rfl) ?_
        refine q (sNeq rfl rfl) ?_
        refine en ?_
        refine ifd rfl (fun hne => ?_) (fun hne => ?_)
        · refine seq ?_
          refine reg ?_
          refine q (asg rfl) ?_
          refine q (asg rfl) ?_
          refine en ?_
          refine ret (dSr ?_)
          refine finQT [] rfl rfl rfl (fun a => by first | (simp only [cnt_append, cnt_cons, cnt_nil, id]; done) | (simp only [cnt_append, cnt_cons, cnt_nil, id]; omega)) (.inr ⟨fun M hM hw => ?_, rfl⟩)
          rw [hend (.inr (by omega)) M hM hw] at hne
          exact hne (by rw [hw])
        · refine skp (dSq ?_)
          refine seq ?_
          refine reg ?_
          refine q (mv rfl) ?_
          refine q (asg rfl) ?_
          refine q (asg rfl) ?_
          refine en ?_
          refine ret ?_
          have hne : M1.write = s := bs_inj.1 (by simpa using hne)
          exact finQT l rfl rfl rfl (fun a => Nat.le_refl _) (.inl ⟨c, M1, hI, hne, rfl, hC⟩)
    · first | refine gF rfl rfl rfl ?_ | refine gU rfl rfl ?_
      first | refine gF rfl rfl rfl ?_ | refine gU rfl rfl ?_
      first | refine gF rfl rfl rfl ?_ | refine gU rfl rfl ?_
      refine q (by first | exact pkT rfl rfl | exact pkF rfl rfl) ?_
      refine en ?_
      refine ifF rfl ?_
      refine exi (dSe (dLe (dBe (dSq ?_))))
      refine seq ?_
      refine seq ?_
      refine reg ?_
      refine q (mv rfl) ?_
      refine cl0v fb35 rfl (pWrite (hC.rd fun x hx => .inr hx) hI) ?_
      refine q (mv rfl) ?_
      refine q (sNeq rfl rfl) ?_
      refine en ?_
      refine ifd rfl (fun hne => ?_) (fun hne => ?_)
      · refine seq ?_
        refine reg ?_
        refine q (asg rfl) ?_
        refine q (asg rfl) ?_
        refine en ?_
        refine ret (dSr ?_)
        refine finQT [] rfl rfl rfl (fun a => by first | (simp only [cnt_append, cnt_cons, cnt_nil, id]; done) | (simp only [cnt_append, cnt_cons, cnt_nil, id]; omega)) (.inr ⟨fun M hM hw => ?_, rfl⟩)
        rw [hend (.inl (by omega)) M hM hw] at hne
        exact hne (by rw [hw])
      · refine skp (dSq ?_)
        refine seq ?_
        refine reg ?_
        refine q (mv rfl) ?_
        refine q (asg rfl) ?_
        refine q (asg rfl) ?_
        refine en ?_
        refine ret ?_
        have hne : M1.write = s := bs_inj.1 (by simpa using hne)
        exact finQT l rfl rfl rfl (fun a => Nat.le_refl _) (.inl ⟨c, M1, hI, hne, rfl, hC⟩)

