import Derived.Test.YtoecfgldnlglnaaXEq
import Derived.Test.YtoecfgldnlglnaaXEk
set_option linter.unusedVariables false
set_option linter.unusedSimpArgs false
set_option maxRecDepth 20000
namespace Go.Proofs.Ytoecfgldnlglnaa
open Go Go.Wk Go.Wk.Num
/-! # The document's Read -/
theorem add_step1 {M M' : CM} (hM : CI M) (hqs : M'.qs = M.qs) {j : Nat} (hps : M'.ps = M.ps.take j) {p : Prn} (hp : M.ps[j]? = some p) :
    (M'.add p.slot p.tok p.role).1 = 0 := by
  obtain ⟨h1, h2, h3, h4, h5⟩ := hM.p p (List.mem_of_getElem? hp)
  have hj := (List.getElem?_eq_some_iff.1 hp).1
  have htk : M.ps.take (j + 1) = M.ps.take j ++ [p] := by rw [List.take_succ_eq_append_getElem hj, (List.getElem?_eq_some_iff.1 hp).2]
  have hlt : ∀ q ∈ M.ps.take j, tlt q.tok p.tok = true := fun q hq => by
    have hsd := hM.sd.sublist (List.take_sublist (j + 1) M.ps)
    rw [htk] at hsd
    exact (List.pairwise_append.1 hsd).2.2 q hq p (List.mem_singleton.2 rfl)
  have hnone : look M'.ps p.tok = Option.none := look_none fun q hq e => by
    rw [hps] at hq
    exact sLt_ne (hlt q hq) (congrArg Subtype.val e)
  have hth : M'.there p.slot := by unfold CM.there CM.q at h2 ⊢; rw [hqs]; exact h2
  have hmany : M'.many p.slot < 4 := by
    have h6 := hM.many p.slot
    have h7 : (M.ps.take (j + 1)).countP (·.slot = p.slot) ≤ M.ps.countP (·.slot = p.slot) := List.Sublist.countP_le (List.take_sublist _ _)
    rw [htk, List.countP_append, List.countP_singleton, if_pos (by simp)] at h7
    unfold CM.many at h6 ⊢
    rw [hps]; omega
  unfold CM.add
  rw [if_neg (by rintro (h | h | h | h) <;> first | omega | exact h5 h), if_neg (by simpa using hth), if_neg (by rw [hnone]; decide), if_neg (by omega)]
/-- What an Add that is done has done, behind all others. -/
theorem add_ok {M : CM} {s r : UInt8} {t : Tok} (h : (M.add s t r).1 = 0) (hlt : ∀ q ∈ M.ps, tlt q.tok t = true) : (M.add s t r).2 = ⟨M.qs, M.ps ++ [⟨t, s, r⟩]⟩ := by
  unfold CM.add at h ⊢
  split at h
  · cases h
  rename_i h1
  rw [if_neg h1]
  split at h
  · cases h
  rename_i h2
  rw [if_neg h2]
  split at h
  · cases h
  rename_i h3
  rw [if_neg h3]
  split at h
  · cases h
  rename_i h4
  rw [if_neg h4]
  simp only
  rw [ins_last (x := ⟨t, s, r⟩) hlt]
theorem create_ok {M : CM} {s : UInt8} {x : Quo} (h : (M.create s x).1 = 0) : x.right ∧ s.toNat < 4 ∧ (M.create s x).2 = { M with qs := M.qs.set s.toNat x } := by
  unfold CM.create at h ⊢
  split at h
  · cases h
  rename_i h1
  rw [if_neg h1]
  split at h
  · cases h
  rename_i h2
  rw [if_neg h2]
  split at h
  · cases h
  rename_i h3
  rw [if_neg h3]
  refine ⟨?_, ?_, rfl⟩
  · by_cases h : x.right
    · exact h
    · exact absurd (.inr h) h1
  · rcases Nat.lt_or_ge s.toNat 4 with h | h
    · exact h
    · exact absurd (.inl h) h1
/-- Four numbers, read one by one. -/
theorem numV_take4 {ns : List Nat} {i n : Nat} (h : ns[i]? = some n) : numV (ns.drop i) = oneL n ++ numV (ns.drop (i + 1)) := by
  have hi := (List.getElem?_eq_some_iff.1 h).1
  rw [List.drop_eq_getElem_cons hi, (List.getElem?_eq_some_iff.1 h).2]; rfl
abbrev i64s (ns : List Nat) : List Value := ns.map fun n => .int .i64 (n : Nat)
def RdRr (s : List UInt8) (R : Rd) (v : Value) (nw : Bl) : Prop :=
  (∃ u M, CI M ∧ M.write = s ∧ v = .tuple (List.toArray [u, .bool true]) ∧ RdT (fun b o => R b o ∨ (b, o) ∈ nw) u M) ∨ ((∀ M, CI M → M.write ≠ s) ∧ v = .tuple (List.toArray [.agg (List.toArray [.slice none 0 0, .slice none 0 0]), .bool false]))
def natC (n : Nat) : List Value := [.int .i64 (n : Nat)]
theorem kNat : RepK 1 (Flat natC) := RepK.flat' (by decide) (fun _ => rfl) fun _ => rfl
theorem take_more {s : List UInt8} {k : Nat} (hb : rB (s.drop k) = true) : s.take (k + rK (s.drop k)) = s.take k ++ oneL (rN (s.drop k)) := by
  obtain ⟨h1, h2⟩ := r_split hb
  rw [List.take_add, h2]
  congr 1
  generalize s.drop k = d at h1
  have h := congrArg (List.take (oneL (rN d)).length) h1
  rwa [List.take_left] at h
theorem rCreateN {R v M x} {i : Nat} (h : RdT R v M) (hI : CI M) (hi : i < 4) : Tri Try.prog 85 [v, .int .u8 (i : Nat), quoV x] R [] fun v' nw => ∃ u, v' = .tuple (List.toArray [u, u8V (M.create (UInt8.ofNat i) x).1]) ∧ RdT (fun b o => R b o ∨ (b, o) ∈ nw) u (M.create (UInt8.ofNat i) x).2 := by
  have h1 : (UInt8.ofNat i).toNat = i := u8_ofNat (by omega)
  have h2 := rCreate (R := R) (s := UInt8.ofNat i) (x := x) h hI
  rwa [show u8V (UInt8.ofNat i) = .int .u8 (i : Nat) by unfold u8V; rw [h1]] at h2
theorem rep_set {q : Nat} {A : List Value} {v : Value} (hA : A.length = q) (hq : q < 8) : (A ++ List.replicate (8 - q) (Value.int .u8 0)).set q v = (A ++ [v]) ++ List.replicate (8 - (q + 1)) (Value.int .u8 0) := by
  rw [List.set_append_right _ _ (by omega), hA, Nat.sub_self, show 8 - q = (8 - (q + 1)) + 1 by omega, List.replicate_succ, List.set_cons_zero]; simp
theorem rRead {R s} (hs : s.length ≤ 1000) : Tri Try.prog 47 [bs s] R [] fun v nw => RdRr s R v nw := by
  have hsz := bs_size s
  refine enter Try.func47 rfl rfl (by kernel_rfl) rfl fun w0 => ?_
  refine seq ?_
  refine reg ?_
  refine al zr85 rfl ?_
  intro b1
  refine q (asg rfl) ?_
  refine en ?_
  refine seq ?_
  refine reg ?_
  refine q (bd pl85 rfl .n) ?_
  refine al zr85 rfl ?_
  intro b2
  refine stA sz85 rfl rfl rfl rfl (by repeat (first | exact .h | apply In.t | apply In.r)) (by first | assumption | repeat constructor) ?_
  refine en ?_
  refine seq ?_
  refine reg ?_
  refine q (asg rfl) ?_
  refine en ?_
  refine seq ?_
  refine seq ?_
  refine reg ?_
  refine q (asg rfl) ?_
  refine en ?_
  refine blk ?_
  refine cSub (e' := [(0, bs s), (2, .pointer (some ⟨b1, 0, none⟩)), (4, .pointer (some ⟨b2, 0, none⟩)), (5, .int .i64 (0 : Nat)), (6, .int .u8 (0 : Nat))]) (by repeat first | exact Sub.nil | refine Sub.cons rfl ?_) ?_
  refine loop (fun m' e l => ∃ (i k : Nat) (M' : CM) (lr : Bl) (pT : Option Addr) (cT : Nat) (pP : Option Addr) (cP : Nat), m' = 4 - i ∧ i ≤ 4 ∧ k ≤ s.length ∧ CI M' ∧ M'.ps = [] ∧ s.take k = (M'.qs.take i).flatMap wQ ∧ M'.qs.drop i = List.replicate (4 - i) Q0 ∧ (∀ M, CI M → M.write = s → s.drop k = M.tail i ∧ M'.qs = M.qs.take i ++ List.replicate (4 - i) Q0) ∧ RdT (fun b o => Has R lr b o) (.agg (List.toArray [.slice pT (tens M'.qs).length cT, .slice pP M'.ps.length cP])) M' ∧ e = [(0, bs s), (2, .pointer (some ⟨b1, 0, none⟩)), (4, .pointer (some ⟨b2, 0, none⟩)), (5, .int .i64 (k : Nat)), (6, .int .u8 (i : Nat))] ∧ (∀ a, cnt a l = cnt a ((b2, .cells (List.toArray [.slice pT (tens M'.qs).length cT, .slice pP M'.ps.length cP]) 85 (0, 0)) :: (b1, .cells (List.toArray [.slice none 0 0, .slice none 0 0]) 85 (0, 0)) :: lr))) 4 ⟨0, 0, CM.none, [], none, 0, none, 0, rfl, by omega, by omega, CI.none, rfl, rfl, rfl, fun M hM h => ⟨h.symm, rfl⟩, RdT.none, rfl, fun a => rfl⟩ ?_
  rintro m' _ l ⟨i, k, M', lr, pT, cT, pP, cP, rfl, hi, hk, hI, hps, hpre, hqd, hcond, hu, rfl, hcnt⟩
  refine cPerm (permC hcnt) ?_
  refine seq ?_
  refine seq ?_
  refine reg ?_
  refine q (mv rfl) ?_
  refine q (bLss rfl rfl) ?_
  refine en ?_
  refine ifd rfl (fun hlt => ?_) (fun hlt => ?_)
  · have hlt : i < 4 := by omega
    have htl : ∀ M, CI M → M.write = s → s.drop k = wQ (M.q i) ++ M.tail (i + 1) := fun M hM hw => by rw [(hcond M hM hw).1, tail_succ hM hlt]
    have hw01 : ∀ M, CI M → M.write = s → ∃ b0 rt, s.drop k = b0 :: rt ∧ ((M.q i = Q0 ∧ b0 = 0 ∧ rt = M.tail (i + 1)) ∨ ((M.q i).right ∧ b0 = 1 ∧ rt = numV (numsQ (M.q i)) ++ M.tail (i + 1))) := fun M hM hw => by
      have h1 := htl M hM hw
      rcases hM.qcase i with h2 | h2
      · rw [h2, show wQ Q0 = [0] by unfold wQ; rw [if_neg (by simp [Q0])]] at h1
        exact ⟨0, _, h1, .inl ⟨h2, rfl, rfl⟩⟩
      · have h3 := h2
        unfold Quo.right at h3
        rw [show wQ (M.q i) = 1 :: numV (numsQ (M.q i)) by unfold wQ; rw [if_pos (by omega)]] at h1
        exact ⟨1, _, h1, .inr ⟨h2, rfl, rfl⟩⟩
    refine skp (dSq ?_)
    refine seq ?_
    refine blk ?_
    refine seq ?_
    refine seq ?_
    refine reg ?_
    refine q (mv rfl) ?_
    refine q (mv rfl) ?_
    refine q (lnS Try.underlying9 rfl) ?_
    refine q (bGeq rfl rfl) ?_
    refine q (mv rfl) ?_
    refine decd (t := 32) rfl (fun hend => ?_) (fun hend => ?_)
    · first | refine gF rfl rfl rfl ?_ | refine gU rfl rfl ?_
      first | refine gF rfl rfl rfl ?_ | refine gU rfl rfl ?_
      first | refine gF rfl rfl rfl ?_ | refine gU rfl rfl ?_
      first | refine gF rfl rfl rfl ?_ | refine gU rfl rfl ?_
      refine q (by first | exact pkT rfl rfl | exact pkF rfl rfl) ?_
      refine en ?_
      refine ifT rfl ?_
      refine seq ?_
      refine reg ?_
      refine q (bd pl85 rfl .n) ?_
      refine stA sz85 rfl rfl rfl rfl (by repeat (first | exact .h | apply In.t | apply In.r)) (by first | assumption | repeat constructor) ?_
      refine q (asg rfl) ?_
      refine en ?_
      refine ret (dSr (dBr (dSr (dLr (dBr (dSr ?_))))))
      refine finZ [] rfl (.agg ag85 rfl (by repeat (first | exact m0 | apply mS | apply mA)) (tkAll rfl) (.tmp rfl .nil)) rfl (fun a => by first | (simp only [cnt_append, cnt_cons, cnt_nil, id]; done) | (simp only [cnt_append, cnt_cons, cnt_nil, id]; omega)) (.inr ⟨fun M hM hw => ?_, rfl⟩)
      obtain ⟨b0, rt, h1, _⟩ := hw01 M hM hw
      have := congrArg List.length h1
      rw [List.length_drop, List.length_cons] at this
      omega
    · have hkl : k < s.length := by omega
      have hx := List.getElem?_eq_getElem hkl
      generalize s[k] = b0 at hx
      have hdk : s.drop k = b0 :: s.drop (k + 1) := by rw [List.drop_eq_getElem_cons hkl, (List.getElem?_eq_some_iff.1 hx).2]
      have hfst : ∀ M, CI M → M.write = s → (M.q i = Q0 ∧ b0 = 0 ∧ s.drop (k + 1) = M.tail (i + 1)) ∨ ((M.q i).right ∧ b0 = 1 ∧ s.drop (k + 1) = numV (numsQ (M.q i)) ++ M.tail (i + 1)) := fun M hM hw => by
        obtain ⟨b', rt, h1, h2⟩ := hw01 M hM hw
        rw [hdk] at h1
        obtain ⟨rfl, rfl⟩ := List.cons.inj h1
        exact h2
      refine gT rfl rfl ?_
      refine q (mv rfl) ?_
      refine gT rfl rfl ?_
      refine q (mv rfl) ?_
      refine gT rfl rfl ?_
      refine q (sIx (u := b0) Try.underlying9 rfl rfl (by omega) (by rw [Int.toNat_natCast]; exact hx)) ?_
      refine gT rfl rfl ?_
      refine q (bGtr rfl rfl) ?_
      refine q (by first | exact pkT rfl rfl | exact pkF rfl rfl) ?_
      refine en ?_
      refine ifd rfl (fun hbig => ?_) (fun hbig => ?_)
      · refine seq ?_
        refine reg ?_
        refine q (bd pl85 rfl .n) ?_
        refine stA sz85 rfl rfl rfl rfl (by repeat (first | exact .h | apply In.t | apply In.r)) (by first | assumption | repeat constructor) ?_
        refine q (asg rfl) ?_
        refine en ?_
        refine ret (dSr (dBr (dSr (dLr (dBr (dSr ?_))))))
        refine finZ [] rfl (.agg ag85 rfl (by repeat (first | exact m0 | apply mS | apply mA)) (tkAll rfl) (.tmp rfl .nil)) rfl (fun a => by first | (simp only [cnt_append, cnt_cons, cnt_nil, id]; done) | (simp only [cnt_append, cnt_cons, cnt_nil, id]; omega)) (.inr ⟨fun M hM hw => ?_, rfl⟩)
        rcases hfst M hM hw with ⟨_, h, _⟩ | ⟨_, h, _⟩
        · rw [h] at hbig; exact absurd hbig (by decide)
        · rw [h] at hbig; exact absurd hbig (by decide)
      · refine skp (dSq ?_)
        refine seq ?_
        refine reg ?_
        refine q (mv rfl) ?_
        refine q (mv rfl) ?_
        refine q (sIx (u := b0) Try.underlying9 rfl rfl (by omega) (by rw [Int.toNat_natCast]; exact hx)) ?_
        refine q (bEql rfl rfl) ?_
        refine q (asg rfl) ?_
        refine en ?_
        refine seq ?_
        refine reg ?_
        refine q (mv rfl) ?_
        refine q (by first | exact bAddi rfl rfl (by omega) | exact bAdd rfl rfl) ?_
        refine q (asg rfl) ?_
        refine en ?_
        refine seq ?_
        refine reg ?_
        refine q (asg rfl) ?_
        refine en ?_
        refine seq ?_
        refine seq ?_
        refine reg ?_
        refine q (asg rfl) ?_
        refine en ?_
        generalize htb : decide ((b0.toNat : Int) = 1) = tb
        refine cSub (e' := [(0, bs s), (2, .pointer (some ⟨b1, 0, none⟩)), (4, .pointer (some ⟨b2, 0, none⟩)), (5, .int .i64 ((k + 1 : Nat) : Int)), (6, .int .u8 (i : Nat)), (7, .bool tb), (8, .slice none 0 0), (9, .int .i64 (0 : Nat))]) (by repeat first | exact Sub.nil | refine Sub.cons rfl ?_) ?_
        refine cutJ (fun e' l' => ∃ (k' : Nat) (ns : List Nat) (vL : Value) (bkL : Bl), k' ≤ s.length ∧ (tb = true → ns.length = 4) ∧ (tb = false → k' = k + 1) ∧ s.take k' = s.take (k + 1) ++ numV ns ∧ OSl 3 1 (Flat natC) (fun _ _ => False) vL ns bkL ∧ (∀ n ∈ ns, n ≤ 1000) ∧ (∀ M, CI M → M.write = s → tb = true → (M.q i).right ∧ ns = numsQ (M.q i) ∧ s.drop k' = M.tail (i + 1)) ∧ e' = [(0, bs s), (2, .pointer (some ⟨b1, 0, none⟩)), (4, .pointer (some ⟨b2, 0, none⟩)), (5, .int .i64 (k' : Nat)), (6, .int .u8 (i : Nat)), (7, .bool tb), (8, vL)] ∧ l' = bkL ++ ((b2, .cells (List.toArray [.slice pT (tens M'.qs).length cT, .slice pP M'.ps.length cP]) 85 (0, 0)) :: (b1, .cells (List.toArray [.slice none 0 0, .slice none 0 0]) 85 (0, 0)) :: lr)) ?_ ?_
        · refine blk ?_
          refine loop (fun m' e l' => ∃ (j k' : Nat) (ns : List Nat) (vL : Value) (bkL : Bl), m' = 4 - j ∧ j ≤ 4 ∧ ns.length = j ∧ k' ≤ s.length ∧ (tb = false → j = 0 ∧ k' = k + 1) ∧ s.take k' = s.take (k + 1) ++ numV ns ∧ OSl 3 1 (Flat natC) (fun _ _ => False) vL ns bkL ∧ (∀ n ∈ ns, n ≤ 1000) ∧ (∀ M, CI M → M.write = s → tb = true → (M.q i).right ∧ ns = (numsQ (M.q i)).take j ∧ s.drop k' = numV ((numsQ (M.q i)).drop j) ++ M.tail (i + 1)) ∧ e = [(0, bs s), (2, .pointer (some ⟨b1, 0, none⟩)), (4, .pointer (some ⟨b2, 0, none⟩)), (5, .int .i64 (k' : Nat)), (6, .int .u8 (i : Nat)), (7, .bool tb), (8, vL), (9, .int .i64 (j : Nat))] ∧ l' = bkL ++ ((b2, .cells (List.toArray [.slice pT (tens M'.qs).length cT, .slice pP M'.ps.length cP]) 85 (0, 0)) :: (b1, .cells (List.toArray [.slice none 0 0, .slice none 0 0]) 85 (0, 0)) :: lr)) 4 ⟨0, k + 1, [], _, [], rfl, by omega, rfl, by omega, fun _ => ⟨rfl, rfl⟩, by simp [numV], OSl.nil, by simp, fun M hM hw ht => ?_, rfl, rfl⟩ ?_
          · rcases hfst M hM hw with ⟨_, h, _⟩ | ⟨h, _, h3⟩
            · rw [← htb, h] at ht; exact absurd ht (by decide)
            · exact ⟨h, by simp, h3⟩
          rintro m' _ _ ⟨j, k', ns, vL, bkL, rfl, hj, hnl, hk', htf, hpre', hO, hns, hc', rfl, rfl⟩
          obtain ⟨pO, cO, rfl⟩ := hO.val kNat
          refine seq ?_
          refine seq ?_
          refine reg ?_
          refine q (mv rfl) ?_
          refine q (bLss rfl rfl) ?_
          refine q (mv rfl) ?_
          refine decd (t := 47) rfl (fun hj4 => ?_) (fun hj4 => ?_)
          · refine gT rfl rfl ?_
            refine q (mv rfl) ?_
            refine q (by first | exact pkT rfl rfl | exact pkF rfl rfl) ?_
            refine en ?_
            refine ifb rfl (fun ht => ?_) (fun ht => ?_)
            · have ht' : tb = true := ht
              refine skp (dSq ?_)
              refine seq ?_
              refine blk ?_
              refine seq ?_
              refine reg ?_
              refine q (mv rfl) ?_
              refine q (mv rfl) ?_
              refine q (slT (L := k') (H := s.length) Try.underlying9 rfl rfl (by show _ = _; rw [bs_size]) hk' (by rw [bs_size]; exact Nat.le_refl _)) ?_
              rw [bs_extract, show (s.drop k').take (s.length - k') = s.drop k' from List.take_of_length_le (by rw [List.length_drop]; exact Nat.le_refl _)]
              refine cl0v fb92 rfl (nReadVr (by rw [List.length_drop]; omega)) ?_
              have hrk := rK_le (s.drop k')
              rw [List.length_drop] at hrk
              have hnx : ∀ M, CI M → M.write = s → ∃ n, (numsQ (M.q i))[j]? = some n ∧ n ≤ 1000 ∧ rB (s.drop k') = true ∧ rN (s.drop k') = n ∧ s.drop (k' + rK (s.drop k')) = numV ((numsQ (M.q i)).drop (j + 1)) ++ M.tail (i + 1) := fun M hM hw => by
                obtain ⟨q1, q2, q3⟩ := hc' M hM hw ht'
                have hjl : j < (numsQ (M.q i)).length := by simp [numsQ]; omega
                have hxn := List.getElem?_eq_getElem hjl
                generalize (numsQ (M.q i))[j] = n at hxn
                have hn1 : n ≤ 1000 := by
                  have := List.mem_of_getElem? hxn
                  unfold Quo.right at q1
                  simp [numsQ] at this
                  omega
                rw [numV_take4 hxn, List.append_assoc] at q3
                obtain ⟨r1, r2, r3⟩ := r_app (n := n) (by unfold M64; omega) (numV ((numsQ (M.q i)).drop (j + 1)) ++ M.tail (i + 1))
                rw [← q3] at r1 r2 r3
                refine ⟨n, hxn, hn1, r3, r1, ?_⟩
                rw [← List.drop_drop, r2, q3, List.drop_left]
              refine q (mv rfl) ?_
              refine q (ext rfl rfl) ?_
              refine q (ext rfl rfl) ?_
              refine q (ext rfl rfl) ?_
              refine q (asg rfl) ?_
              refine q (asg rfl) ?_
              refine q (asg rfl) ?_
              refine en ?_
              refine seq ?_
              refine seq ?_
              refine reg ?_
              refine q (mv rfl) ?_
              refine q (by first | exact bNotd rfl | exact bNot rfl) ?_
              refine q (mv rfl) ?_
              refine dec (t := 62) rfl (fun hok => ?_) (fun hok => ?_)
              · first | refine gF rfl rfl rfl ?_ | refine gU rfl rfl ?_
                first | refine gF rfl rfl rfl ?_ | refine gU rfl rfl ?_
                refine q (by first | exact pkT rfl rfl | exact pkF rfl rfl) ?_
                refine en ?_
                refine ifT rfl ?_
                refine seq ?_
                refine reg ?_
                refine q (bd pl85 rfl .n) ?_
                refine stA sz85 rfl rfl rfl rfl (by repeat (first | exact .h | apply In.t | apply In.r)) (by first | assumption | repeat constructor) ?_
                refine q (asg rfl) ?_
                refine en ?_
                refine ret (dSr (dBr (dSr (dLr (dBr (dJr (dBr (dSr (dLr (dBr (dSr ?_)))))))))))
                refine finZ [] rfl (.agg ag85 rfl (by repeat (first | exact m0 | apply mS | apply mA)) (tkAll rfl) (.tmp rfl .nil)) rfl (fun a => by first | (simp only [cnt_append, cnt_cons, cnt_nil, id]; done) | (simp only [cnt_append, cnt_cons, cnt_nil, id]; omega)) (.inr ⟨fun M hM hw => ?_, rfl⟩)
                obtain ⟨n, _, _, h3, _⟩ := hnx M hM hw
                rw [h3] at hok; cases hok
              · have hok : rB (s.drop k') = true := by simpa using hok
                refine gT rfl rfl ?_
                refine q (mv rfl) ?_
                refine gT rfl rfl ?_
                refine q (bGtr rfl rfl) ?_
                refine q (by first | exact pkT rfl rfl | exact pkF rfl rfl) ?_
                refine en ?_
                refine ifd rfl (fun hbg => ?_) (fun hbg => ?_)
                · refine seq ?_
                  refine reg ?_
                  refine q (bd pl85 rfl .n) ?_
                  refine stA sz85 rfl rfl rfl rfl (by repeat (first | exact .h | apply In.t | apply In.r)) (by first | assumption | repeat constructor) ?_
                  refine q (asg rfl) ?_
                  refine en ?_
                  refine ret (dSr (dBr (dSr (dLr (dBr (dJr (dBr (dSr (dLr (dBr (dSr ?_)))))))))))
                  refine finZ [] rfl (.agg ag85 rfl (by repeat (first | exact m0 | apply mS | apply mA)) (tkAll rfl) (.tmp rfl .nil)) rfl (fun a => by first | (simp only [cnt_append, cnt_cons, cnt_nil, id]; done) | (simp only [cnt_append, cnt_cons, cnt_nil, id]; omega)) (.inr ⟨fun M hM hw => ?_, rfl⟩)
                  obtain ⟨n, _, h2, _, h4, _⟩ := hnx M hM hw
                  omega
                · refine skp (dSq ?_)
                  refine seq ?_
                  refine reg ?_
                  refine q (mv rfl) ?_
                  refine q (mv rfl) ?_
                  refine q (cvN (rN (s.drop k')) (rN (s.drop k')) Try.underlying128 Try.underlying3 rfl (wrap_i64 (by omega))) ?_
                  refine apO (l2 := (b2, .cells (List.toArray [.slice pT (tens M'.qs).length cT, .slice pP M'.ps.length cP]) 85 (0, 0)) :: (b1, .cells (List.toArray [.slice none 0 0, .slice none 0 0]) 85 (0, 0)) :: lr) Try.underlying23 in3 rfl kNat hO (a := rN (s.drop k')) rfl (by omega) (by omega) (by decide) (fun a => by first | (simp only [cnt_append, cnt_cons, cnt_nil, id]; done) | (simp only [cnt_append, cnt_cons, cnt_nil, id]; omega)) (fun _ => rfl) rfl rfl ?_
                  intro vL2 bk2 u2 hO2
                  refine q (asg rfl) ?_
                  refine en ?_
                  refine reg ?_
                  refine q (mv rfl) ?_
                  refine q (mv rfl) ?_
                  refine q (by first | exact bAddi rfl rfl (by omega) | exact bAdd rfl rfl) ?_
                  refine q (asg rfl) ?_
                  refine enD (dBn (dSq ?_))
                  refine reg ?_
                  refine q (mv rfl) ?_
                  refine q (by first | exact bAddi rfl rfl (by omega) | exact bAdd rfl rfl) ?_
                  refine q (asg rfl) ?_
                  refine enD ?_
                  have htm := take_more hok
                  refine dLp (m' := 4 - (j + 1)) (e' := [(0, bs s), (2, .pointer (some ⟨b1, 0, none⟩)), (4, .pointer (some ⟨b2, 0, none⟩)), (5, .int .i64 ((k' + rK (s.drop k') : Nat) : Int)), (6, .int .u8 (i : Nat)), (7, .bool tb), (8, vL2), (9, .int .i64 ((j + 1 : Nat) : Int))]) (by omega) (by repeat first | exact Sub.nil | refine Sub.cons rfl ?_) ⟨j + 1, k' + rK (s.drop k'), ns ++ [rN (s.drop k')], vL2, bk2, rfl, by omega, by simp [hnl], by omega, (fun h => by rw [ht'] at h; cases h), ?_, hO2, ?_, fun M hM hw _ => ?_, rfl, rfl⟩
                  · rw [htm, hpre', List.append_assoc]; simp [numV]
                  · intro n hn
                    rcases List.mem_append.1 hn with hn | hn
                    · exact hns n hn
                    · rw [List.mem_singleton.1 hn]; omega
                  · obtain ⟨q1, q2, q3⟩ := hc' M hM hw ht'
                    obtain ⟨n, h1, h2, h3, h4, h5⟩ := hnx M hM hw
                    exact ⟨q1, by rw [tk_snoc h1, ← q2, h4], h5⟩
            · have ht' : tb = false := ht
              obtain ⟨q1, q2⟩ := htf ht'
              refine exi (dSe (dLe (dBe ?_)))
              exact dJ (by repeat first | exact Sub.nil | refine Sub.cons rfl ?_) ⟨k', ns, _, bkL, hk', (fun h => by rw [ht'] at h; cases h), (fun _ => q2), hpre', hO, hns, (fun M hM hw h => by rw [ht'] at h; cases h), rfl, rfl⟩
          · first | refine gF rfl rfl rfl ?_ | refine gU rfl rfl ?_
            refine q (by first | exact pkT rfl rfl | exact pkF rfl rfl) ?_
            refine en ?_
            refine ifF rfl ?_
            refine exi (dSe (dLe (dBe ?_)))
            have hj4 : j = 4 := by omega
            exact dJ (by repeat first | exact Sub.nil | refine Sub.cons rfl ?_) ⟨k', ns, _, bkL, hk', (fun _ => by omega), (fun h => (htf h).2), hpre', hO, hns, (fun M hM hw h => by
              obtain ⟨q1, q2, q3⟩ := hc' M hM hw h
              subst hj4
              exact ⟨q1, q2, q3⟩), rfl, rfl⟩
        · rintro _ _ ⟨k', ns, vL, bkL, hk', hn4, htf, hpre', hO, hns, hc', rfl, rfl⟩
          obtain ⟨pO, cO, rfl⟩ := hO.val kNat
          refine seq ?_
          refine reg ?_
          refine q (mv rfl) ?_
          refine en ?_
          refine ifb rfl (fun ht => ?_) (fun ht => ?_)
          · have ht' : tb = true := ht
            have hb1 : b0 = 1 := by
              have h := of_decide_eq_true (htb.trans ht')
              apply UInt8.toNat_inj.1
              show b0.toNat = 1
              omega
            obtain ⟨a0, a1, a2, a3, rfl⟩ : ∃ a0 a1 a2 a3, ns = [a0, a1, a2, a3] := by
              have := hn4 ht'
              match ns, this with
              | [a0, a1, a2, a3], _ => exact ⟨a0, a1, a2, a3, rfl⟩
            have hcr : ∀ j : Nat, j < 4 → ∃ bL cs, pO = some ⟨bL, 0, none⟩ ∧ bkL = [(bL, .cells (List.toArray cs) 3 (0, 0))] ∧ cs[0 + ((j : Nat) : Int).toNat * 1]? = (i64s [a0, a1, a2, a3])[j]? := fun j hj => by
              have hx : [a0, a1, a2, a3][j]? = some ([a0, a1, a2, a3][j]) := List.getElem?_eq_getElem (by simpa using hj)
              obtain ⟨bL, cs, vs, e1, _, e2, rfl, hjj, _⟩ := hO.at kNat hx
              refine ⟨bL, cs, e1, e2, ?_⟩
              have := hjj 0 (by decide)
              rw [Nat.add_zero] at this
              rw [this, List.getElem?_map, hx]; rfl
            obtain ⟨bL, cs, rfl, rfl, z0⟩ := hcr 0 (by decide)
            obtain ⟨_, _, e1, e2, z1⟩ := hcr 1 (by decide)
            cases e1; cases e2
            obtain ⟨_, _, e1, e2, z2⟩ := hcr 2 (by decide)
            cases e1; cases e2
            obtain ⟨_, _, e1, e2, z3⟩ := hcr 3 (by decide)
            cases e1; cases e2
            have z0 : cs[0 + (0 : Int).toNat * 1]? = some (.int .i64 (a0 : Nat)) := z0
            have z1 : cs[0 + (1 : Int).toNat * 1]? = some (.int .i64 (a1 : Nat)) := z1
            have z2 : cs[0 + (2 : Int).toNat * 1]? = some (.int .i64 (a2 : Nat)) := z2
            have z3 : cs[0 + (3 : Int).toNat * 1]? = some (.int .i64 (a3 : Nat)) := z3
            have hl4 : [a0, a1, a2, a3].length = 4 := rfl
            rw [hl4]
            refine seq ?_
            refine drw (by kernel_rfl) [(.q, 0), (.q, 1), (.q, 2), (.q, 3), (.q, 4), (.q, 5), (.q, 6), (.q, 7), (.q, 8), (.q, 9), (.q, 10), (.q, 11), (.q, 12), (.q, 13), (.q, 14), (.b, 15), (.q, 16), (.q, 17), (.p, 18), (.a, 19), (.s, 20), (.q, 21)] _ rfl (by kernel_rfl) (by kernel_rfl) ⟨alF rfl zr85 rfl, trivial⟩ ?_
            refine xq rfl (ldA ag85 rfl (by first | exact mR (by assumption) | repeat (first | assumption | exact m0 | apply mS | apply mA)) (by first | assumption | repeat constructor)) ?_
            refine xq rfl (mv rfl) ?_
            refine xq rfl (mv rfl) ?_
            refine xq rfl (ia Try.underlying23 sz3 rfl rfl (by omega) (by omega)) ?_
            refine xq rfl (ld na3 rfl (by first | exact mR (by assumption) | repeat (first | assumption | exact m0 | apply mS | apply mA)) (by first | rfl | assumption)) ?_
            refine xq rfl (mv rfl) ?_
            refine xq rfl (ia Try.underlying23 sz3 rfl rfl (by omega) (by omega)) ?_
            refine xq rfl (ld na3 rfl (by first | exact mR (by assumption) | repeat (first | assumption | exact m0 | apply mS | apply mA)) (by first | rfl | assumption)) ?_
            refine xq rfl (mv rfl) ?_
            refine xq rfl (ia Try.underlying23 sz3 rfl rfl (by omega) (by omega)) ?_
            refine xq rfl (ld na3 rfl (by first | exact mR (by assumption) | repeat (first | assumption | exact m0 | apply mS | apply mA)) (by first | rfl | assumption)) ?_
            refine xq rfl (mv rfl) ?_
            refine xq rfl (ia Try.underlying23 sz3 rfl rfl (by omega) (by omega)) ?_
            refine xq rfl (ld na3 rfl (by first | exact mR (by assumption) | repeat (first | assumption | exact m0 | apply mS | apply mA)) (by first | rfl | assumption)) ?_
            refine xq rfl (bd pl89 rfl (.c1 rfl (by first | decide | simp) rfl (by repeat constructor) (.c1 rfl (by first | decide | simp) rfl (by repeat constructor) (.c1 rfl (by first | decide | simp) rfl (by repeat constructor) (.c1 rfl (by first | decide | simp) rfl (by repeat constructor) .n))))) ?_
            refine xb rfl (eC0 fb85 rfl fun R' hR' => (rCreateN (x := ⟨a0, a1, a2, a3⟩) hu hI hlt).weak fun b o h => hR' b o (h.imp id fun h => by simp [h])) (fun v l' ⟨nw, e, _⟩ => ⟨nw, e⟩) ?_
            rintro _ _ ⟨nw, rfl, u, rfl, hu2⟩
            obtain ⟨pT', cT', pP', cP', rfl, _, _⟩ := hu2.val
            have hxq : ∀ M, CI M → M.write = s → (⟨a0, a1, a2, a3⟩ : Quo) = M.q i := fun M hM hw => by
              obtain ⟨q1, q2, _⟩ := hc' M hM hw ht'
              unfold Quo.right at q1
              generalize M.q i = x at q1 q2
              obtain ⟨x1, x2, x3, x4⟩ := x
              simp [numsQ] at q1 q2
              obtain ⟨e1, e2, e3, e4⟩ := q2
              simp; omega
            refine xq rfl (mv rfl) ?_
            refine xq rfl (ext rfl rfl) ?_
            refine xp rfl (ext rfl rfl) ?_
            refine xa rfl zr85 rfl ?_
            intro b3
            refine xs rfl (eStA sz85 rfl rfl rfl rfl (by repeat (first | exact .h | apply In.t | apply In.r)) (by first | assumption | repeat constructor)) ?_
            rintro _ _ rfl
            refine xq rfl (asg rfl) ?_
            refine dSq ?_
            refine seq ?_
            refine seq ?_
            refine reg ?_
            refine q (mv rfl) ?_
            refine q (bNeq rfl rfl) ?_
            refine en ?_
            refine ifd rfl (fun hne => ?_) (fun hne => ?_)
            · refine seq ?_
              refine reg ?_
              refine q (bd pl85 rfl .n) ?_
              refine stA sz85 rfl rfl rfl rfl (by repeat (first | exact .h | apply In.t | apply In.r)) (by first | assumption | repeat constructor) ?_
              refine q (asg rfl) ?_
              refine en ?_
              refine ret (dSr (dBr (dSr (dLr (dBr (dSr ?_))))))
              refine finZ [] rfl (.agg ag85 rfl (by repeat (first | exact m0 | apply mS | apply mA)) (tkAll rfl) (.tmp rfl .nil)) rfl (fun a => by first | (simp only [cnt_append, cnt_cons, cnt_nil, id]; done) | (simp only [cnt_append, cnt_cons, cnt_nil, id]; omega)) (.inr ⟨fun M hM hw => ?_, rfl⟩)
              obtain ⟨q1, _, _⟩ := hc' M hM hw ht'
              have := (create_step hM hps hlt (hcond M hM hw).2 q1).1
              rw [← hxq M hM hw] at this
              exact hne (by rw [this]; rfl)
            · refine skp (dSq ?_)
              refine reg ?_
              refine q (ldA ag85 rfl (by first | exact mR (by assumption) | repeat (first | assumption | exact m0 | apply mS | apply mA)) (by first | assumption | repeat constructor)) ?_
              refine stA sz85 rfl rfl rfl rfl (by repeat (first | exact .h | apply In.t | apply In.r)) (by first | assumption | repeat constructor) ?_
              refine enD (dBn (dSq ?_))
              refine reg ?_
              refine q (mv rfl) ?_
              refine q (addN i 1 (i + 1) rfl rfl (by rw [u8_mod]; congr 1; omega)) ?_
              refine q (asg rfl) ?_
              refine enD ?_
              have hn : (UInt8.ofNat i).toNat = i := u8_ofNat (by omega)
              have hz : (M'.create (UInt8.ofNat i) ⟨a0, a1, a2, a3⟩).1 = 0 := UInt8.toNat_inj.1 (by show _ = 0; omega)
              obtain ⟨x1, x2, x3⟩ := create_ok hz
              rw [hn] at x3
              have hI2 := create_CI hI (UInt8.ofNat i) ⟨a0, a1, a2, a3⟩
              have hps2 := create_ps M' (UInt8.ofNat i) ⟨a0, a1, a2, a3⟩
              have hcs : ∀ M, CI M → M.write = s → (M'.create (UInt8.ofNat i) ⟨a0, a1, a2, a3⟩).2.qs = M.qs.take (i + 1) ++ List.replicate (4 - (i + 1)) Q0 := fun M hM hw => by
                have := (create_step hM hps hlt (hcond M hM hw).2 (hc' M hM hw ht').1).2
                rwa [← hxq M hM hw] at this
              generalize (M'.create (UInt8.ofNat i) ⟨a0, a1, a2, a3⟩).2 = M2 at hu2 x3 hI2 hps2 hcs
              subst x3
              have hil : i < M'.qs.length := by rw [hI.len]; exact hlt
              refine dSub ((b2, .cells (List.toArray [.slice pT' (tens (M'.qs.set i ⟨a0, a1, a2, a3⟩)).length cT', .slice pP' M'.ps.length cP']) 85 (0, 0)) :: (b1, .cells (List.toArray [.slice none 0 0, .slice none 0 0]) 85 (0, 0)) :: (nw ++ lr)) (fun a => by first | (simp only [cnt_append, cnt_cons, cnt_nil, id]; done) | (simp only [cnt_append, cnt_cons, cnt_nil, id]; omega)) (dLp (m' := 4 - (i + 1)) (e' := [(0, bs s), (2, .pointer (some ⟨b1, 0, none⟩)), (4, .pointer (some ⟨b2, 0, none⟩)), (5, .int .i64 (k' : Nat)), (6, .int .u8 ((i + 1 : Nat) : Int))]) (by omega) (by repeat first | exact Sub.nil | refine Sub.cons rfl ?_) ⟨i + 1, k', _, nw ++ lr, pT', cT', pP', cP', rfl, by omega, hk', hI2, by rw [hps2]; exact hps, ?_, ?_, fun M hM hw => ⟨(hc' M hM hw ht').2.2, hcs M hM hw⟩, hu2.mono ?_, rfl, fun a => rfl⟩)
              · have hw1 := wqs_take hI2 hlt
                have hq1 : CM.q { M' with qs := M'.qs.set i ⟨a0, a1, a2, a3⟩ } i = ⟨a0, a1, a2, a3⟩ := by
                  unfold CM.q
                  simp only
                  rw [getD_set hil, if_pos rfl]
                rw [hw1, hq1, hpre', tk_snoc hx, hpre, hb1]
                unfold Quo.right at x1
                have : wQ ⟨a0, a1, a2, a3⟩ = 1 :: numV [a0, a1, a2, a3] := by
                  unfold wQ
                  rw [if_pos (by omega)]
                  simp [numsQ]
                rw [this]
                simp only
                rw [List.take_set, List.set_eq_of_length_le (by rw [List.length_take]; omega)]
                simp
              · simp only
                rw [List.drop_set_of_lt (by omega), ← List.drop_drop, hqd]; simp [List.drop_replicate]; omega
              · intro b o h
                rcases h with (h | h) | h
                · exact .inl h
                · exact .inr (List.mem_append_right _ h)
                · exact .inr (List.mem_append_left _ h)
          · have ht' : tb = false := ht
            refine skp (dBn (dSq ?_))
            refine reg ?_
            refine q (mv rfl) ?_
            refine q (addN i 1 (i + 1) rfl rfl (by rw [u8_mod]; congr 1; omega)) ?_
            refine q (asg rfl) ?_
            refine enD ?_
            have hb0 : b0 = 0 := by
              have h := of_decide_eq_false (htb.trans ht')
              apply UInt8.toNat_inj.1
              show b0.toNat = 0
              omega
            obtain rfl := htf ht'
            have hq0 : M'.q i = Q0 := by
              unfold CM.q
              have := congrArg (fun l => l[0]?) hqd
              simp only [List.getElem?_drop, Nat.add_zero] at this
              rw [List.getD_eq_getElem?_getD, this, List.getElem?_replicate, if_pos (by omega)]; rfl
            refine dSub ((b2, .cells (List.toArray [.slice pT (tens M'.qs).length cT, .slice pP M'.ps.length cP]) 85 (0, 0)) :: (b1, .cells (List.toArray [.slice none 0 0, .slice none 0 0]) 85 (0, 0)) :: lr) (fun a => by first | (simp only [cnt_append, cnt_cons, cnt_nil, id]; done) | (simp only [cnt_append, cnt_cons, cnt_nil, id]; omega)) (dLp (m' := 4 - (i + 1)) (e' := [(0, bs s), (2, .pointer (some ⟨b1, 0, none⟩)), (4, .pointer (some ⟨b2, 0, none⟩)), (5, .int .i64 ((k + 1 : Nat) : Int)), (6, .int .u8 ((i + 1 : Nat) : Int))]) (by omega) (by repeat first | exact Sub.nil | refine Sub.cons rfl ?_) ⟨i + 1, k + 1, M', lr, pT, cT, pP, cP, rfl, by omega, by omega, hI, hps, ?_, ?_, fun M hM hw => ?_, hu, rfl, fun a => rfl⟩)
            · rw [tk_snoc hx, hpre, wqs_take hI hlt, hq0, hb0]
              congr 1
            · rw [← List.drop_drop, hqd]; simp [List.drop_replicate]; omega
            · rcases hfst M hM hw with ⟨q1, _, q3⟩ | ⟨_, h, _⟩
              · exact ⟨q3, by rw [(hcond M hM hw).2, skip_step hM hlt q1]⟩
              · rw [hb0] at h; exact absurd h (by decide)
  · have h4 : i = 4 := by omega
    subst h4
    rw [List.take_of_length_le (l := M'.qs) (by rw [hI.len]; omega)] at hpre
    have hcond4 : ∀ M, CI M → M.write = s → M'.qs = M.qs ∧ rB (s.drop k) = true ∧ rN (s.drop k) = M.ps.length ∧ s.drop (k + rK (s.drop k)) = M.ps.flatMap wP := fun M hM hw => by
      obtain ⟨q1, q2⟩ := hcond M hM hw
      rw [tail_four hM] at q1
      have h3 := hM.len16'
      obtain ⟨r1, r2, r3⟩ := r_app (n := M.ps.length) (by unfold M64; omega) (M.ps.flatMap wP)
      rw [← q1] at r1 r2 r3
      refine ⟨by rw [q2, List.take_of_length_le (by rw [hM.len]; exact Nat.le_refl _)]; simp, r3, r1, ?_⟩
      rw [← List.drop_drop, r2, q1, List.drop_left]
    refine exi (dSe (dLe (dBe (dSq ?_))))
    refine seq ?_
    refine reg ?_
    refine q (mv rfl) ?_
    refine q (mv rfl) ?_
    refine q (slT (L := k) (H := s.length) Try.underlying9 rfl rfl (by show _ = _; rw [bs_size]) hk (by rw [bs_size]; exact Nat.le_refl _)) ?_
    rw [bs_extract, show (s.drop k).take (s.length - k) = s.drop k from List.take_of_length_le (by rw [List.length_drop]; exact Nat.le_refl _)]
    refine cl0v fb92 rfl (nReadVr (by rw [List.length_drop]; omega)) ?_
    have hrk := rK_le (s.drop k)
    rw [List.length_drop] at hrk
    refine q (mv rfl) ?_
    refine q (ext rfl rfl) ?_
    refine q (ext rfl rfl) ?_
    refine q (ext rfl rfl) ?_
    refine q (asg rfl) ?_
    refine q (asg rfl) ?_
    refine q (asg rfl) ?_
    refine en ?_
    refine seq ?_
    refine reg ?_
    refine q (mv rfl) ?_
    refine q (mv rfl) ?_
    refine q (by first | exact bAddi rfl rfl (by omega) | exact bAdd rfl rfl) ?_
    refine q (asg rfl) ?_
    refine en ?_
    refine seq ?_
    refine seq ?_
    refine reg ?_
    refine q (mv rfl) ?_
    refine q (by first | exact bNotd rfl | exact bNot rfl) ?_
    refine q (mv rfl) ?_
    refine dec (t := 112) rfl (fun hok => ?_) (fun hok => ?_)
    · first | refine gF rfl rfl rfl ?_ | refine gU rfl rfl ?_
      first | refine gF rfl rfl rfl ?_ | refine gU rfl rfl ?_
      refine q (by first | exact pkT rfl rfl | exact pkF rfl rfl) ?_
      refine q (mv rfl) ?_
      first | refine gF rfl rfl rfl ?_ | refine gU rfl rfl ?_
      first | refine gF rfl rfl rfl ?_ | refine gU rfl rfl ?_
      first | refine gF rfl rfl rfl ?_ | refine gU rfl rfl ?_
      first | refine gF rfl rfl rfl ?_ | refine gU rfl rfl ?_
      first | refine gF rfl rfl rfl ?_ | refine gU rfl rfl ?_
      first | refine gF rfl rfl rfl ?_ | refine gU rfl rfl ?_
      first | refine gF rfl rfl rfl ?_ | refine gU rfl rfl ?_
      first | refine gF rfl rfl rfl ?_ | refine gU rfl rfl ?_
      refine q (by first | exact pkT rfl rfl | exact pkF rfl rfl) ?_
      refine en ?_
      refine ifT rfl ?_
      refine seq ?_
      refine reg ?_
      refine q (bd pl85 rfl .n) ?_
      refine stA sz85 rfl rfl rfl rfl (by repeat (first | exact .h | apply In.t | apply In.r)) (by first | assumption | repeat constructor) ?_
      refine q (asg rfl) ?_
      refine en ?_
      refine ret (dSr ?_)
      refine finZ [] rfl (.agg ag85 rfl (by repeat (first | exact m0 | apply mS | apply mA)) (tkAll rfl) (.tmp rfl .nil)) rfl (fun a => by first | (simp only [cnt_append, cnt_cons, cnt_nil, id]; done) | (simp only [cnt_append, cnt_cons, cnt_nil, id]; omega)) (.inr ⟨fun M hM hw => ?_, rfl⟩)
      rw [(hcond4 M hM hw).2.1] at hok; cases hok
    · have hok : rB (s.drop k) = true := by simpa using hok
      refine gT rfl rfl ?_
      refine q (mv rfl) ?_
      refine gT rfl rfl ?_
      refine q (bGtr rfl rfl) ?_
      refine q (by first | exact pkT rfl rfl | exact pkF rfl rfl) ?_
      refine q (mv rfl) ?_
      refine decd (t := 116) rfl (fun h16 => ?_) (fun h16 => ?_)
      · first | refine gF rfl rfl rfl ?_ | refine gU rfl rfl ?_
        first | refine gF rfl rfl rfl ?_ | refine gU rfl rfl ?_
        first | refine gF rfl rfl rfl ?_ | refine gU rfl rfl ?_
        first | refine gF rfl rfl rfl ?_ | refine gU rfl rfl ?_
        first | refine gF rfl rfl rfl ?_ | refine gU rfl rfl ?_
        first | refine gF rfl rfl rfl ?_ | refine gU rfl rfl ?_
        first | refine gF rfl rfl rfl ?_ | refine gU rfl rfl ?_
        first | refine gF rfl rfl rfl ?_ | refine gU rfl rfl ?_
        refine q (by first | exact pkT rfl rfl | exact pkF rfl rfl) ?_
        refine en ?_
        refine ifT rfl ?_
        refine seq ?_
        refine reg ?_
        refine q (bd pl85 rfl .n) ?_
        refine stA sz85 rfl rfl rfl rfl (by repeat (first | exact .h | apply In.t | apply In.r)) (by first | assumption | repeat constructor) ?_
        refine q (asg rfl) ?_
        refine en ?_
        refine ret (dSr ?_)
        refine finZ [] rfl (.agg ag85 rfl (by repeat (first | exact m0 | apply mS | apply mA)) (tkAll rfl) (.tmp rfl .nil)) rfl (fun a => by first | (simp only [cnt_append, cnt_cons, cnt_nil, id]; done) | (simp only [cnt_append, cnt_cons, cnt_nil, id]; omega)) (.inr ⟨fun M hM hw => ?_, rfl⟩)
        have h3 := hM.len16'
        have := (hcond4 M hM hw).2.2.1
        omega
      · refine gT rfl rfl ?_
        refine q (mv rfl) ?_
        refine gT rfl rfl ?_
        refine q (lnS Try.underlying9 rfl) ?_
        refine gT rfl rfl ?_
        refine q (mv rfl) ?_
        refine gT rfl rfl ?_
        refine q (by first | exact bSubi rfl rfl (by omega) | exact bSub rfl rfl) ?_
        refine gT rfl rfl ?_
        refine q (mv rfl) ?_
        refine gT rfl rfl ?_
        refine q (cvI Try.underlying128 Try.underlying3 rfl) ?_
        refine gT rfl rfl ?_
        refine q (by first | exact bMuli rfl rfl (by omega) | exact bMul rfl rfl) ?_
        refine gT rfl rfl ?_
        refine q (bNeq rfl rfl) ?_
        refine q (by first | exact pkT rfl rfl | exact pkF rfl rfl) ?_
        refine en ?_
        have hw1 : IntKind.i64.wrap ((rN (s.drop k) : Nat) : Int) = (rN (s.drop k) : Nat) := wrap_i64 (by omega)
        have hw2 : IntKind.i64.wrap (10 * ((rN (s.drop k) : Nat) : Int)) = 10 * (rN (s.drop k) : Nat) := wrap_i64 (by omega)
        rw [hw1]
        try rw [hw2]
        refine ifd rfl (fun hneq => ?_) (fun hneq => ?_)
        · refine seq ?_
          refine reg ?_
          refine q (bd pl85 rfl .n) ?_
          refine stA sz85 rfl rfl rfl rfl (by repeat (first | exact .h | apply In.t | apply In.r)) (by first | assumption | repeat constructor) ?_
          refine q (asg rfl) ?_
          refine en ?_
          refine ret (dSr ?_)
          refine finZ [] rfl (.agg ag85 rfl (by repeat (first | exact m0 | apply mS | apply mA)) (tkAll rfl) (.tmp rfl .nil)) rfl (fun a => by first | (simp only [cnt_append, cnt_cons, cnt_nil, id]; done) | (simp only [cnt_append, cnt_cons, cnt_nil, id]; omega)) (.inr ⟨fun M hM hw => ?_, rfl⟩)
          obtain ⟨_, _, h3, h4⟩ := hcond4 M hM hw
          have h5 := congrArg List.length h4
          rw [List.length_drop, wps_len] at h5
          omega
        · refine skp (dSq ?_)
          refine seq ?_
          refine seq ?_
          refine reg ?_
          refine q (asg rfl) ?_
          refine en ?_
          refine blk ?_
          have htm := take_more hok
          rw [hpre] at htm
          have hcond5 : ∀ M, CI M → M.write = s → M'.qs = M.qs ∧ rN (s.drop k) = M.ps.length ∧ s.drop (k + rK (s.drop k)) = M.ps.flatMap wP := fun M hM hw => ⟨(hcond4 M hM hw).1, (hcond4 M hM hw).2.2⟩
          generalize rN (s.drop k) = n at *
          generalize hkk : k + rK (s.drop k) = k0 at *
          have hki : ((k : Nat) : Int) + ((rK (s.drop k) : Nat) : Int) = (k0 : Nat) := by omega
          rw [hki]
          refine cSub (e' := [(0, bs s), (2, .pointer (some ⟨b1, 0, none⟩)), (4, .pointer (some ⟨b2, 0, none⟩)), (5, .int .i64 (k0 : Nat)), (15, .int .u64 (n : Nat)), (18, .int .i64 (0 : Nat))]) (by repeat first | exact Sub.nil | refine Sub.cons rfl ?_) ?_
          refine loop (fun m' e l => ∃ (j k : Nat) (M1 : CM) (lr : Bl) (pT : Option Addr) (cT : Nat) (pP : Option Addr) (cP : Nat), m' = n - j ∧ j ≤ n ∧ k + 10 * (n - j) = s.length ∧ CI M1 ∧ M1.qs = M'.qs ∧ M1.ps.length = j ∧ s.take k = M'.qs.flatMap wQ ++ oneL n ++ M1.ps.flatMap wP ∧ (∀ M, CI M → M.write = s → M1.ps = M.ps.take j ∧ s.drop k = (M.ps.drop j).flatMap wP) ∧ RdT (fun b o => Has R lr b o) (.agg (List.toArray [.slice pT (tens M1.qs).length cT, .slice pP M1.ps.length cP])) M1 ∧ e = [(0, bs s), (2, .pointer (some ⟨b1, 0, none⟩)), (4, .pointer (some ⟨b2, 0, none⟩)), (5, .int .i64 (k : Nat)), (15, .int .u64 (n : Nat)), (18, .int .i64 (j : Nat))] ∧ l = (b2, .cells (List.toArray [.slice pT (tens M1.qs).length cT, .slice pP M1.ps.length cP]) 85 (0, 0)) :: (b1, .cells (List.toArray [.slice none 0 0, .slice none 0 0]) 85 (0, 0)) :: lr) n ⟨0, k0, M', lr, pT, cT, pP, cP, rfl, by omega, by omega, hI, rfl, by rw [hps]; rfl, by rw [htm, hps]; simp, fun M hM hw => ⟨by rw [hps]; rfl, (hcond5 M hM hw).2.2⟩, hu, rfl, rfl⟩ ?_
          clear hu hcnt hok
          rintro m' _ _ ⟨j, k, M1, lr, pT, cT, pP, cP, rfl, hj, hk, hI1, hq1, hpl, hpre1, hc1, hu, rfl, rfl⟩
          refine seq ?_
          refine seq ?_
          refine reg ?_
          refine q (mv rfl) ?_
          refine q (mv rfl) ?_
          refine q (cvN n n Try.underlying128 Try.underlying3 rfl (wrap_i64 (by omega))) ?_
          refine q (bLss rfl rfl) ?_
          refine en ?_
          refine ifd rfl (fun hjn => ?_) (fun hjn => ?_)
          · have hjn : j < n := by omega
            have h8 : (s.drop k).length ≥ 10 := by rw [List.length_drop]; omega
            refine skp (dSq ?_)
            refine seq ?_
            refine blk ?_
            refine seq ?_
            refine reg ?_
            refine al zr65 rfl ?_
            intro b4
            refine en ?_
            refine seq ?_
            refine seq ?_
            refine reg ?_
            refine q (asg rfl) ?_
            refine en ?_
            refine cutJ (fun e' l' => ∃ (b5 : Nat) (tk : Tok), tokB tk = (s.drop k).take 8 ∧ e' = [(0, bs s), (2, .pointer (some ⟨b1, 0, none⟩)), (4, .pointer (some ⟨b2, 0, none⟩)), (5, .int .i64 (k : Nat)), (15, .int .u64 (n : Nat)), (18, .int .i64 (j : Nat)), (19, .pointer (some ⟨b5, 0, none⟩))] ∧ l' = (b5, .cells (tokC tk).toArray 65 (0, 0)) :: (b2, .cells (List.toArray [.slice pT (tens M1.qs).length cT, .slice pP M1.ps.length cP]) 85 (0, 0)) :: (b1, .cells (List.toArray [.slice none 0 0, .slice none 0 0]) 85 (0, 0)) :: lr) ?_ ?_
            · refine blk ?_
              refine cSub (e' := [(0, bs s), (2, .pointer (some ⟨b1, 0, none⟩)), (4, .pointer (some ⟨b2, 0, none⟩)), (5, .int .i64 (k : Nat)), (15, .int .u64 (n : Nat)), (18, .int .i64 (j : Nat)), (19, .pointer (some ⟨b4, 0, none⟩)), (20, .int .i64 (0 : Nat))]) (by repeat first | exact Sub.nil | refine Sub.cons rfl ?_) ?_
              refine loop (fun m' e l => ∃ q : Nat, m' = 8 - q ∧ q ≤ 8 ∧ e = [(0, bs s), (2, .pointer (some ⟨b1, 0, none⟩)), (4, .pointer (some ⟨b2, 0, none⟩)), (5, .int .i64 (k : Nat)), (15, .int .u64 (n : Nat)), (18, .int .i64 (j : Nat)), (19, .pointer (some ⟨b4, 0, none⟩)), (20, .int .i64 (q : Nat))] ∧ l = (b4, .cells (List.toArray (u8s ((s.drop k).take q) ++ List.replicate (8 - q) (.int .u8 0))) 65 (0, 0)) :: (b2, .cells (List.toArray [.slice pT (tens M1.qs).length cT, .slice pP M1.ps.length cP]) 85 (0, 0)) :: (b1, .cells (List.toArray [.slice none 0 0, .slice none 0 0]) 85 (0, 0)) :: lr) 8 ⟨0, rfl, by omega, rfl, rfl⟩ ?_
              rintro m' _ _ ⟨qq, rfl, hq8, rfl, rfl⟩
              refine seq ?_
              refine seq ?_
              refine reg ?_
              refine q (mv rfl) ?_
              refine q (bLss rfl rfl) ?_
              refine en ?_
              refine ifd rfl (fun hql => ?_) (fun hql => ?_)
              · have hql : qq < 8 := by omega
                have hx : (s.drop k)[qq]? = some (s.drop k)[qq] := List.getElem?_eq_getElem (by omega)
                generalize (s.drop k)[qq] = u at hx
                have hx' : s[k + qq]? = some u := by rw [← hx, List.getElem?_drop]
                have hlt8 : ((s.drop k).take qq).length = qq := by rw [List.length_take]; omega
                have hset := rep_set (A := u8s ((s.drop k).take qq)) (v := .int .u8 u.toNat) (by rw [List.length_map, hlt8]) hql
                rw [← List.map_singleton (f := fun b : UInt8 => Value.int .u8 b.toNat), ← List.map_append, ← tk_snoc hx] at hset
                refine skp (dSq ?_)
                refine seq ?_
                refine blk ?_
                refine reg ?_
                refine q (mv rfl) ?_
                refine q (mv rfl) ?_
                refine q (mv rfl) ?_
                refine q (mv rfl) ?_
                refine q (by first | exact bAddi rfl rfl (by omega) | exact bAdd rfl rfl) ?_
                refine q (sIx (u := u) Try.underlying9 rfl rfl (by omega) (by rw [show ((k : Int) + (qq : Int)).toNat = k + qq by omega]; exact hx')) ?_
                refine q (iaA Try.underlying65 sz5 rfl rfl (by omega) (by omega)) ?_
                have hup : UpC (u8s ((s.drop k).take qq) ++ List.replicate (8 - qq) (.int .u8 0)) (0 + ((qq : Nat) : Int).toNat * 1) (.int .u8 u.toNat) (u8s ((s.drop k).take (qq + 1)) ++ List.replicate (8 - (qq + 1)) (.int .u8 0)) := by
                  rw [Int.toNat_natCast, Nat.zero_add, Nat.mul_one]
                  have := UpC.any (cs := u8s ((s.drop k).take qq) ++ List.replicate (8 - qq) (.int .u8 0)) (k := qq) (v := .int .u8 u.toNat) (by simp [hlt8]; omega)
                  rwa [hset] at this
                refine st sz5 rfl rfl rfl .h hup ?_
                refine enD (dBn (dSq ?_))
                refine reg ?_
                refine q (mv rfl) ?_
                refine q (by first | exact bAddi rfl rfl (by omega) | exact bAdd rfl rfl) ?_
                refine q (asg rfl) ?_
                refine enD ?_
                exact dLp (m' := 8 - (qq + 1)) (e' := [(0, bs s), (2, .pointer (some ⟨b1, 0, none⟩)), (4, .pointer (some ⟨b2, 0, none⟩)), (5, .int .i64 (k : Nat)), (15, .int .u64 (n : Nat)), (18, .int .i64 (j : Nat)), (19, .pointer (some ⟨b4, 0, none⟩)), (20, .int .i64 ((qq + 1 : Nat) : Int))]) (by omega) (by repeat first | exact Sub.nil | refine Sub.cons rfl ?_) ⟨qq + 1, rfl, by omega, rfl, rfl⟩
              · have hq8 : qq = 8 := by omega
                subst hq8
                refine exi (dSe (dLe (dBe ?_)))
                have h88 : ((s.drop k).take 8).length = 8 := by rw [List.length_take]; omega
                have hsz8 : (⟨((s.drop k).take 8).toArray⟩ : ByteArray).size = 8 := by rw [bs_size]; exact h88
                exact dJ (by repeat first | exact Sub.nil | refine Sub.cons rfl ?_) ⟨b4, ⟨⟨((s.drop k).take 8).toArray⟩, hsz8⟩, rfl, rfl, by rw [show u8s ((s.drop k).take 8) ++ List.replicate (8 - 8) (.int .u8 0) = u8s ((s.drop k).take 8) by simp]; rfl⟩
            · rintro _ _ ⟨b5, tk, htk, rfl, rfl⟩
              have hTk : Tk 0 8 (tokC tk) (tokC tk) := tkAll (tokC_len tk)
              obtain ⟨b8, hb8⟩ : ∃ b, (s.drop k)[8]? = some b := ⟨_, List.getElem?_eq_getElem (by omega)⟩
              obtain ⟨b9, hb9⟩ : ∃ b, (s.drop k)[9]? = some b := ⟨_, List.getElem?_eq_getElem (by omega)⟩
              have hb8' : s[k + 8]? = some b8 := by rw [← hb8, List.getElem?_drop]
              have hb9' : s[k + 9]? = some b9 := by rw [← hb9, List.getElem?_drop]
              have hrd : s.drop k = tokB tk ++ [b8, b9] ++ s.drop (k + 10) := by
                have h1 : s.drop k = (s.drop k).take 10 ++ s.drop (k + 10) := by rw [← List.drop_drop, List.take_append_drop]
                have h2 : (s.drop k).take 10 = tokB tk ++ [b8, b9] := by
                  rw [tk_snoc hb9, tk_snoc hb8, ← htk]; simp
                rw [h2] at h1; exact h1
              have hpj : ∀ M, CI M → M.write = s → M.ps[j]? = some ⟨tk, b8, b9⟩ ∧ s.drop (k + 10) = (M.ps.drop (j + 1)).flatMap wP := fun M hM hw => by
                obtain ⟨q1, q2⟩ := hc1 M hM hw
                have q3 := (hcond5 M hM hw).2.1
                have hjl : j < M.ps.length := by omega
                have hp := List.getElem?_eq_getElem hjl
                generalize M.ps[j] = p at hp
                rw [dr_cons hp, List.flatMap_cons, hrd] at q2
                obtain ⟨q4, q5⟩ := List.append_inj q2 (by rw [wP_len]; simp [tokB_len])
                have : (⟨tk, b8, b9⟩ : Prn) = p := wP_inj (by unfold wP; exact q4)
                exact ⟨by rw [hp, this], q5⟩
              refine seq ?_
              refine cutJ (fun e' l' => (∀ q ∈ M1.ps, tlt q.tok tk = true) ∧ e' = [(0, bs s), (2, .pointer (some ⟨b1, 0, none⟩)), (4, .pointer (some ⟨b2, 0, none⟩)), (5, .int .i64 (k : Nat)), (15, .int .u64 (n : Nat)), (18, .int .i64 (j : Nat)), (19, .pointer (some ⟨b5, 0, none⟩))] ∧ l' = (b5, .cells (tokC tk).toArray 65 (0, 0)) :: (b2, .cells (List.toArray [.slice pT (tens M1.qs).length cT, .slice pP M1.ps.length cP]) 85 (0, 0)) :: (b1, .cells (List.toArray [.slice none 0 0, .slice none 0 0]) 85 (0, 0)) :: lr) ?_ ?_
              · refine seq ?_
                refine drw (by kernel_rfl) [(.q, 0), (.q, 1), (.q, 2), (.q, 3), (.q, 4), (.q, 5), (.q, 6), (.q, 7), (.q, 8), (.q, 9), (.q, 10), (.q, 11), (.q, 12), (.q, 13)] _ rfl (by kernel_rfl) (by kernel_rfl) trivial ?_
                refine xq rfl (mv rfl) ?_
                refine xq rfl (bGtr rfl rfl) ?_
                refine xq rfl (mv rfl) ?_
                refine xdecd (t := 146) rfl (fun hj0 => ?_) (fun hj0 => ?_)
                · obtain ⟨pT2, cT2, pP2, cP2, eu, _, hPs⟩ := hu.val
                  cases eu
                  have hjl : j - 1 < M1.ps.length := by omega
                  have hxp := List.getElem?_eq_getElem hjl
                  generalize M1.ps[j - 1] = pl at hxp
                  obtain ⟨b', o, cs, E, fz, vs, rfl, _, hR, rfl, hjj, _⟩ := hPs.at kPrn hxp
                  have hz0 : cs[o + ((j : Int) - 1).toNat * 3 + 0]? = some (.string pl.tok.1) := by
                    have := hjj 0 (by decide)
                    rw [Int.toNat_natCast] at this
                    rw [show ((j : Int) - 1).toNat = j - 1 by omega, this]; rfl
                  have hR1 : Has R lr b' (.cells cs.toArray E fz) := hR
                  refine xgT rfl rfl rfl (fa fo85_1 rfl) ?_
                  refine xgT rfl rfl rfl (ld na83 rfl (by first | exact mR (by assumption) | repeat (first | assumption | exact m0 | apply mS | apply mA)) (by first | rfl | assumption)) ?_
                  refine xgT rfl rfl rfl (mv rfl) ?_
                  refine xgT rfl rfl rfl ((by first | exact bSubi rfl rfl (by omega) | exact bSub rfl rfl)) ?_
                  refine xgT rfl rfl rfl (ia Try.underlying83 sz149 rfl rfl (by omega) (by omega)) ?_
                  refine xgT rfl rfl rfl (fa fo149_0 rfl) ?_
                  refine xgT rfl rfl rfl (ld na9 rfl (by first | exact mR (by assumption) | repeat (first | assumption | exact m0 | apply mS | apply mA)) (by first | rfl | assumption)) ?_
                  refine xgT rfl rfl rfl (ldA ag65 rfl (by first | exact mR (by assumption) | repeat (first | assumption | exact m0 | apply mS | apply mA)) (by first | assumption | repeat constructor)) ?_
                  refine xcG rfl rfl rfl fb89 rfl (fun F => rText.ro) ?_
                  refine xgT rfl rfl rfl (sGeq rfl rfl) ?_
                  refine xq rfl ((by first | exact pkT rfl rfl | exact pkF rfl rfl)) ?_
                  refine dSq ?_
                  refine ifb rfl (fun hge => ?_) (fun hge => ?_)
                  · refine seq ?_
                    refine reg ?_
                    refine q (bd pl85 rfl .n) ?_
                    refine stA sz85 rfl rfl rfl rfl (by repeat (first | exact .h | apply In.t | apply In.r)) (by first | assumption | repeat constructor) ?_
                    refine q (asg rfl) ?_
                    refine en ?_
                    refine ret (dJr (dBr (dSr (dLr (dBr (dSr ?_))))))
                    refine finZ [] rfl (.agg ag85 rfl (by repeat (first | exact m0 | apply mS | apply mA)) (tkAll rfl) (.tmp rfl .nil)) rfl (fun a => by first | (simp only [cnt_append, cnt_cons, cnt_nil, id]; done) | (simp only [cnt_append, cnt_cons, cnt_nil, id]; omega)) (.inr ⟨fun M hM hw => ?_, rfl⟩)
                    obtain ⟨q1, _⟩ := hpj M hM hw
                    obtain ⟨q3, _⟩ := hc1 M hM hw
                    have hsd := hM.sd.sublist (List.take_sublist (j + 1) M.ps)
                    rw [tk_snoc q1, ← q3] at hsd
                    have := (List.pairwise_append.1 hsd).2.2 pl (List.mem_of_getElem? hxp) _ (List.mem_singleton.2 rfl)
                    have hge : (!sLt pl.tok.1 tk.1) = true := hge
                    rw [show sLt pl.tok.1 tk.1 = tlt pl.tok tk from rfl, this] at hge
                    cases hge
                  · have hge : (!sLt pl.tok.1 tk.1) = false := hge
                    have hlt1 : tlt pl.tok tk = true := by simpa using hge
                    refine skp ?_
                    refine dJ (by repeat first | exact Sub.nil | refine Sub.cons rfl ?_) ⟨fun q hq => ?_, rfl, rfl⟩
                    have hsp : M1.ps = M1.ps.take (j - 1) ++ [pl] := by
                      rw [← tk_snoc hxp, List.take_of_length_le (by omega)]
                    have hsd := hI1.sd
                    rw [hsp] at hq hsd
                    rcases List.mem_append.1 hq with hq | hq
                    · exact sLt_trans ((List.pairwise_append.1 hsd).2.2 q hq pl (List.mem_singleton.2 rfl)) hlt1
                    · rw [List.mem_singleton.1 hq]; exact hlt1
                · first | refine xgF rfl rfl rfl rfl ?_ | refine xgU rfl rfl rfl ?_
                  first | refine xgF rfl rfl rfl rfl ?_ | refine xgU rfl rfl rfl ?_
                  first | refine xgF rfl rfl rfl rfl ?_ | refine xgU rfl rfl rfl ?_
                  first | refine xgF rfl rfl rfl rfl ?_ | refine xgU rfl rfl rfl ?_
                  first | refine xgF rfl rfl rfl rfl ?_ | refine xgU rfl rfl rfl ?_
                  first | refine xgF rfl rfl rfl rfl ?_ | refine xgU rfl rfl rfl ?_
                  first | refine xgF rfl rfl rfl rfl ?_ | refine xgU rfl rfl rfl ?_
                  first | refine xgF rfl rfl rfl rfl ?_ | refine xgU rfl rfl rfl ?_
                  first | refine xgF rfl rfl rfl rfl ?_ | refine xgU rfl rfl rfl ?_
                  first | refine xgF rfl rfl rfl rfl ?_ | refine xgU rfl rfl rfl ?_
                  refine xq rfl ((by first | exact pkT rfl rfl | exact pkF rfl rfl)) ?_
                  refine dSq ?_
                  refine ifF rfl ?_
                  refine skp ?_
                  refine dJ (by repeat first | exact Sub.nil | refine Sub.cons rfl ?_) ⟨fun q hq => ?_, rfl, rfl⟩
                  have : M1.ps = [] := List.eq_nil_of_length_eq_zero (by omega)
                  rw [this] at hq; cases hq
              · rintro _ _ ⟨hlast, rfl, rfl⟩
                refine seq ?_
                refine drw (by kernel_rfl) [(.q, 0), (.q, 1), (.q, 2), (.q, 3), (.q, 4), (.q, 5), (.q, 6), (.q, 7), (.q, 8), (.q, 9), (.b, 10), (.q, 11), (.q, 12), (.p, 13), (.a, 14), (.s, 15), (.q, 16)] _ rfl (by kernel_rfl) (by kernel_rfl) ⟨alF rfl zr85 rfl, trivial⟩ ?_
                refine xq rfl (ldA ag85 rfl (by first | exact mR (by assumption) | repeat (first | assumption | exact m0 | apply mS | apply mA)) (by first | assumption | repeat constructor)) ?_
                refine xq rfl (mv rfl) ?_
                refine xq rfl (mv rfl) ?_
                refine xq rfl ((by first | exact bAddi rfl rfl (by omega) | exact bAdd rfl rfl)) ?_
                refine xq rfl (sIx (u := b8) Try.underlying9 rfl rfl (by omega) (by rw [show ((k : Int) + 8).toNat = k + 8 by omega]; exact hb8')) ?_
                refine xq rfl (ldA ag65 rfl (by first | exact mR (by assumption) | repeat (first | assumption | exact m0 | apply mS | apply mA)) (by first | assumption | repeat constructor)) ?_
                refine xq rfl (mv rfl) ?_
                refine xq rfl (mv rfl) ?_
                refine xq rfl ((by first | exact bAddi rfl rfl (by omega) | exact bAdd rfl rfl)) ?_
                refine xq rfl (sIx (u := b9) Try.underlying9 rfl rfl (by omega) (by rw [show ((k : Int) + 9).toNat = k + 9 by omega]; exact hb9')) ?_
                refine xb rfl (eC0 fb87 rfl fun R' hR' => (rAdd (s := b8) (t := tk) (r := b9) hu hI1).weak fun b o h => hR' b o (h.imp id fun h => by simp [h])) (fun v l' ⟨nw, e, _⟩ => ⟨nw, e⟩) ?_
                rintro _ _ ⟨nw, rfl, u, rfl, hu2⟩
                obtain ⟨pT', cT', pP', cP', rfl, _, _⟩ := hu2.val
                refine xq rfl (mv rfl) ?_
                refine xq rfl (ext rfl rfl) ?_
                refine xp rfl (ext rfl rfl) ?_
                refine xa rfl zr85 rfl ?_
                intro b5
                refine xs rfl (eStA sz85 rfl rfl rfl rfl (by repeat (first | exact .h | apply In.t | apply In.r)) (by first | assumption | repeat constructor)) ?_
                rintro _ _ rfl
                refine xq rfl (asg rfl) ?_
                refine dSq ?_
                refine seq ?_
                refine seq ?_
                refine reg ?_
                refine q (mv rfl) ?_
                refine q (bNeq rfl rfl) ?_
                refine en ?_
                refine ifd rfl (fun hne => ?_) (fun hne => ?_)
                · refine seq ?_
                  refine reg ?_
                  refine q (bd pl85 rfl .n) ?_
                  refine stA sz85 rfl rfl rfl rfl (by repeat (first | exact .h | apply In.t | apply In.r)) (by first | assumption | repeat constructor) ?_
                  refine q (asg rfl) ?_
                  refine en ?_
                  refine ret (dSr (dBr (dSr (dLr (dBr (dSr ?_))))))
                  refine finZ [] rfl (.agg ag85 rfl (by repeat (first | exact m0 | apply mS | apply mA)) (tkAll rfl) (.tmp rfl .nil)) rfl (fun a => by first | (simp only [cnt_append, cnt_cons, cnt_nil, id]; done) | (simp only [cnt_append, cnt_cons, cnt_nil, id]; omega)) (.inr ⟨fun M hM hw => ?_, rfl⟩)
                  obtain ⟨q1, _⟩ := hpj M hM hw
                  have := add_step1 hM (hq1.trans (hcond5 M hM hw).1) (hc1 M hM hw).1 q1
                  exact hne (by rw [this]; rfl)
                · have hz : (M1.add b8 tk b9).1 = 0 := UInt8.toNat_inj.1 (by show _ = 0; omega)
                  have hok := add_ok hz hlast
                  have hI2 := add_CI hI1 b8 tk b9
                  rw [hok] at hu2 hI2
                  rw [hok]
                  refine skp (dSq ?_)
                  refine seq ?_
                  refine reg ?_
                  refine q (ldA ag85 rfl (by first | exact mR (by assumption) | repeat (first | assumption | exact m0 | apply mS | apply mA)) (by first | assumption | repeat constructor)) ?_
                  refine stA sz85 rfl rfl rfl rfl (by repeat (first | exact .h | apply In.t | apply In.r)) (by first | assumption | repeat constructor) ?_
                  refine en ?_
                  refine reg ?_
                  refine q (mv rfl) ?_
                  refine q (by first | exact bAddi rfl rfl (by omega) | exact bAdd rfl rfl) ?_
                  refine q (asg rfl) ?_
                  refine enD (dBn (dSq ?_))
                  refine reg ?_
                  refine q (mv rfl) ?_
                  refine q (by first | exact bAddi rfl rfl (by omega) | exact bAdd rfl rfl) ?_
                  refine q (asg rfl) ?_
                  refine enD ?_
                  refine dSub ((b2, .cells (List.toArray [.slice pT' (tens M1.qs).length cT', .slice pP' (M1.ps ++ [(⟨tk, b8, b9⟩ : Prn)]).length cP']) 85 (0, 0)) :: (b1, .cells (List.toArray [.slice none 0 0, .slice none 0 0]) 85 (0, 0)) :: (nw ++ lr)) (fun a => by first | (simp only [cnt_append, cnt_cons, cnt_nil, id]; done) | (simp only [cnt_append, cnt_cons, cnt_nil, id]; omega)) (dLp (m' := n - (j + 1)) (e' := [(0, bs s), (2, .pointer (some ⟨b1, 0, none⟩)), (4, .pointer (some ⟨b2, 0, none⟩)), (5, .int .i64 ((k + 10 : Nat) : Int)), (15, .int .u64 (n : Nat)), (18, .int .i64 ((j + 1 : Nat) : Int))]) (by omega) (by repeat first | exact Sub.nil | refine Sub.cons rfl ?_) ⟨j + 1, k + 10, _, nw ++ lr, pT', cT', pP', cP', rfl, by omega, by omega, hI2, hq1, by simp [hpl], ?_, fun M hM hw => ?_, hu2.mono ?_, rfl, rfl⟩)
                  · rw [List.take_add, hpre1, show (s.drop k).take 10 = wP ⟨tk, b8, b9⟩ by
                      rw [tk_snoc hb9, tk_snoc hb8, ← htk]; simp [wP]]
                    simp
                  · obtain ⟨q1, q2⟩ := hpj M hM hw
                    exact ⟨by rw [tk_snoc q1, ← (hc1 M hM hw).1], q2⟩
                  · intro b o h
                    rcases h with (h | h) | h
                    · exact .inl h
                    · exact .inr (List.mem_append_right _ h)
                    · exact .inr (List.mem_append_left _ h)
          · have hjn : j = n := by omega
            subst hjn
            refine exi (dSe (dLe (dBe (dSq ?_))))
            refine seq ?_
            refine reg ?_
            refine q (ldA ag85 rfl (by first | exact mR (by assumption) | repeat (first | assumption | exact m0 | apply mS | apply mA)) (by first | assumption | repeat constructor)) ?_
            refine stA sz85 rfl rfl rfl rfl (by repeat (first | exact .h | apply In.t | apply In.r)) (by first | assumption | repeat constructor) ?_
            refine q (asg rfl) ?_
            refine en ?_
            refine ret ?_
            have hkl : k = s.length := by omega
            rw [List.take_of_length_le (by omega)] at hpre1
            refine finZ lr rfl (.agg ag85 rfl (by repeat (first | exact m0 | apply mS | apply mA)) (tkAll rfl) (.tmp rfl .nil)) rfl (fun a => by first | (simp only [cnt_append, cnt_cons, cnt_nil, id]; done) | (simp only [cnt_append, cnt_cons, cnt_nil, id]; omega)) (.inl (.intro _ ⟨M1, hI1, ?_, rfl, hu.mono fun b o h => h⟩))
            rw [hpre1]
            unfold CM.write
            rw [hq1, hpl, List.append_assoc]

