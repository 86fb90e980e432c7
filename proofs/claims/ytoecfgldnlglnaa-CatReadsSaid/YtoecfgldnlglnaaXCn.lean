import Derived.Test.YtoecfgldnlglnaaXCm
set_option linter.unusedVariables false
set_option linter.unusedSimpArgs false
set_option maxRecDepth 20000
namespace Go.Proofs.Ytoecfgldnlglnaa
open Go Go.Wk Go.Wk.Num
/-! # The catalogue: what holds stays -/
theorem qs_set {qs : List Quo} (h : qs.length = 4) {s : Nat} (hs : s < 4) (x : Quo) :
    sumK (qs.set s x) = sumK qs - (qs.getD s Q0).keys + x.keys ∧ sumB (qs.set s x) = sumB qs - (qs.getD s Q0).bytes + x.bytes ∧ sumR (qs.set s x) = sumR qs - (qs.getD s Q0).rate + x.rate := by
  match qs, h with
  | [a, b, c, d], _ =>
    match s, hs with
    | 0, _ | 1, _ | 2, _ | 3, _ => simp [sumK, sumB, sumR] <;> omega
theorem getD_set {qs : List Quo} {s j : Nat} (hs : s < qs.length) (x : Quo) : (qs.set s x).getD j Q0 = if j = s then x else qs.getD j Q0 := by
  rw [List.getD_eq_getElem?_getD, List.getD_eq_getElem?_getD, List.getElem?_set]
  by_cases h : s = j
  · subst h; simp [hs]
  · rw [if_neg h, if_neg (Ne.symm h)]
theorem CI.qcase {M : CM} (hI : CI M) (i : Nat) : M.q i = Q0 ∨ (M.q i).right := by
  unfold CM.q
  rw [List.getD_eq_getElem?_getD]
  by_cases hi : i < M.qs.length
  · rw [List.getElem?_eq_getElem hi]; exact hI.q _ (List.getElem_mem hi)
  · rw [List.getElem?_eq_none (by omega)]; exact .inl rfl
theorem CI.not_there {M : CM} (hI : CI M) {s : UInt8} (h : ¬ M.there s) : M.q s.toNat = Q0 := by
  rcases hI.qcase s.toNat with e | e
  · exact e
  · unfold CM.there at h; unfold Quo.right at e; omega
theorem create_CI {M : CM} (hI : CI M) (s : UInt8) (x : Quo) : CI (M.create s x).2 := by
  unfold CM.create
  split
  · exact hI
  rename_i h1
  split
  · exact hI
  rename_i h2
  split
  · exact hI
  rename_i h3
  have hr : x.right := by
    by_cases h : x.right
    · exact h
    · exact absurd (.inr h) h1
  have hs : s.toNat < 4 := by
    rcases Nat.lt_or_ge s.toNat 4 with h | h
    · exact h
    · exact absurd (.inl h) h1
  have h0 := hI.not_there h2
  have hset := qs_set hI.len hs x
  have hf : M.fits x := by
    by_cases h : M.fits x
    · exact h
    · exact absurd h h3
  unfold CM.q at h0
  unfold CM.fits at hf
  rw [h0] at hset
  have hth : ∀ t : UInt8, M.there t → CM.there { M with qs := M.qs.set s.toNat x } t := fun t ht => by
    unfold CM.there CM.q at ht ⊢
    simp only
    rw [getD_set (by rw [hI.len]; exact hs)]
    split
    · unfold Quo.right at hr; omega
    · exact ht
  refine ⟨by simp [hI.len], fun q hq => ?_, ?_, hI.sd, fun p hp => ?_, hI.many⟩
  · rcases List.mem_or_eq_of_mem_set hq with h | h
    · exact hI.q q h
    · exact .inr (h ▸ hr)
  · simp only [Q0] at hset
    simp only
    omega
  · obtain ⟨a, b, c⟩ := hI.p p hp
    exact ⟨a, hth _ b, c⟩
theorem filter_sub {ps : List Prn} (f : Prn → Bool) (g : Prn → Bool) : (ps.filter f).countP g ≤ ps.countP g := List.Sublist.countP_le List.filter_sublist
theorem remove_CI {M : CM} (hI : CI M) (s : UInt8) : CI (M.remove s).2 := by
  unfold CM.remove
  split
  · exact hI
  rename_i h1
  split
  · exact hI
  rename_i h2
  have hs : s.toNat < 4 := by omega
  have hset := qs_set hI.len hs Q0
  have hq0 : 0 ≤ (M.qs.getD s.toNat Q0).keys ∧ 0 ≤ (M.qs.getD s.toNat Q0).bytes ∧ 0 ≤ (M.qs.getD s.toNat Q0).rate := by
    rcases hI.qcase s.toNat with h | h
    · unfold CM.q at h; rw [h]; simp [Q0]
    · unfold CM.q Quo.right at h; omega
  have hsum := hI.sum
  refine ⟨by simp [hI.len], fun q hq => ?_, ?_, hI.sd.sublist List.filter_sublist, fun p hp => ?_, fun t => Nat.le_trans (filter_sub _ _) (hI.many t)⟩
  · rcases List.mem_or_eq_of_mem_set hq with h | h
    · exact hI.q q h
    · exact .inl h
  · simp only [Q0] at hset
    simp only [Q0] at hq0 ⊢
    omega
  · obtain ⟨hp1, hp2⟩ := List.mem_filter.1 hp
    obtain ⟨a, b, c⟩ := hI.p p hp1
    refine ⟨a, ?_, c⟩
    unfold CM.there CM.q at b ⊢
    simp only
    rw [getD_set (by rw [hI.len]; exact hs), if_neg (fun e => by
      have : p.slot = s := UInt8.toNat_inj.1 e
      simp [this] at hp2)]
    exact b
theorem add_CI {M : CM} (hI : CI M) (s : UInt8) (t : Tok) (r : UInt8) : CI (M.add s t r).2 := by
  unfold CM.add
  split
  · exact hI
  rename_i h1
  split
  · exact hI
  rename_i h2
  split
  · exact hI
  rename_i h3
  split
  · exact hI
  rename_i h4
  have hn : look M.ps t = Option.none := by cases h : look M.ps t <;> simp_all
  refine ⟨hI.len, hI.q, hI.sum, ins_sd hI.sd hn, fun p hp => ?_, fun u => ?_⟩
  · rcases mem_ins.1 hp with rfl | hp
    · refine ⟨?_, ?_, ?_, ?_, ?_⟩
      · simp only; omega
      · by_cases h : M.there s
        · exact h
        · exact absurd h h2
      · simp only; omega
      · simp only; omega
      · exact fun e => h1 (.inr (.inr (.inr e)))
    · exact hI.p p hp
  · unfold CM.many
    simp only
    rw [countP_ins]
    have := hI.many u
    unfold CM.many at this h4
    split
    · rename_i e
      have e : s = u := by simpa using e
      subst e; omega
    · omega
theorem drop_CI {M : CM} (hI : CI M) (t : Tok) : CI (M.drop t).2 := by
  unfold CM.drop
  split
  · exact ⟨hI.len, hI.q, hI.sum, hI.sd.sublist List.filter_sublist, fun p hp => hI.p p (List.mem_filter.1 hp).1, fun u => Nat.le_trans (filter_sub _ _) (hI.many u)⟩
  · exact hI
/-! ## Read back -/
/-- What is written behind slot i's beginning. -/
def CM.tail (M : CM) (i : Nat) : List UInt8 := (M.qs.drop i).flatMap wQ ++ (oneL M.ps.length ++ M.ps.flatMap wP)
theorem tail_zero (M : CM) : M.tail 0 = M.write := rfl
theorem tail_succ {M : CM} (hI : CI M) {i : Nat} (hi : i < 4) : M.tail i = wQ (M.q i) ++ M.tail (i + 1) := by
  have h : i < M.qs.length := by rw [hI.len]; exact hi
  unfold CM.tail CM.q
  rw [List.drop_eq_getElem_cons h, List.flatMap_cons, List.append_assoc, List.getD_eq_getElem?_getD, List.getElem?_eq_getElem h]; rfl
theorem tail_four {M : CM} (hI : CI M) : M.tail 4 = oneL M.ps.length ++ M.ps.flatMap wP := by
  unfold CM.tail
  rw [List.drop_of_length_le (by rw [hI.len]; exact Nat.le_refl _)]; rfl
noncomputable def qr (s : List UInt8) : Int × List UInt8 := ((min (rN s) 4294967296 : Nat), s.drop (rK s))
noncomputable def quoR (s : List UInt8) : Quo × List UInt8 :=
  (⟨(qr s).1, (qr (qr s).2).1, (qr (qr (qr s).2).2).1, (qr (qr (qr (qr s).2).2).2).1⟩, (qr (qr (qr (qr s).2).2).2).2)
theorem qr_app {n : Nat} (h : n < 1000) (t : List UInt8) : qr (oneL n ++ t) = ((n : Int), t) := by
  obtain ⟨h1, h2, h3⟩ := r_app (n := n) (by unfold M64; omega) t
  unfold qr
  rw [h1, h2, List.drop_left]
  congr 1
  omega
theorem quoR_app {q : Quo} (h : q.right) (t : List UInt8) : quoR (numV (numsQ q) ++ t) = (q, t) := by
  unfold Quo.right at h
  unfold quoR
  have e : numV (numsQ q) ++ t = oneL q.keys.toNat ++ (oneL q.bytes.toNat ++ (oneL q.rate.toNat ++ (oneL q.burst.toNat ++ t))) := by simp [numV, numsQ]
  rw [e, qr_app (by omega)]
  simp only
  rw [qr_app (by omega)]
  simp only
  rw [qr_app (by omega)]
  simp only
  rw [qr_app (by omega)]
  simp only
  obtain ⟨a, b, c, d⟩ := q
  simp only at h ⊢
  congr 2 <;> omega
/-- The texts of two that are equal. -/
theorem wQ_inj {a b : Quo} (ha : a = Q0 ∨ a.right) (hb : b = Q0 ∨ b.right) {x y : List UInt8} (h : wQ a ++ x = wQ b ++ y) : a = b ∧ x = y := by
  have key : ∀ {q : Quo}, (q = Q0 ∨ q.right) → (wQ q = [0] ∧ q = Q0) ∨ (wQ q = 1 :: numV (numsQ q) ∧ q.right) := fun {q} hq => by
    rcases hq with rfl | hq
    · exact .inl ⟨by unfold wQ; rw [if_neg (by simp [Q0])], rfl⟩
    · refine .inr ⟨?_, hq⟩
      unfold Quo.right at hq
      unfold wQ; rw [if_pos (by omega)]
  rcases key ha with ⟨e1, h1⟩ | ⟨e1, h1⟩ <;> rcases key hb with ⟨e2, h2⟩ | ⟨e2, h2⟩
  · rw [e1, e2] at h; exact ⟨h1.trans h2.symm, by simpa using h⟩
  · rw [e1, e2] at h; simp at h
  · rw [e1, e2] at h; simp at h
  · rw [e1, e2] at h
    have h : numV (numsQ a) ++ x = numV (numsQ b) ++ y := by simpa using h
    have h3 := congrArg quoR h
    rw [quoR_app h1, quoR_app h2] at h3
    exact Prod.mk.inj h3
theorem tokB_len (t : Tok) : (tokB t).length = 8 := by have : t.1.data.size = 8 := t.2; simp [tokB, this]
theorem wP_len (p : Prn) : (wP p).length = 10 := by simp [wP, tokB_len]
theorem wP_inj {p q : Prn} (h : wP p = wP q) : p = q := by
  unfold wP at h
  obtain ⟨h1, h2⟩ := List.append_inj h (by rw [tokB_len, tokB_len])
  have h3 : p.tok = q.tok := Subtype.ext (ByteArray.ext (Array.toList_inj.1 h1))
  obtain ⟨a, b, c⟩ := p
  obtain ⟨a', b', c'⟩ := q
  simp at h2 h3 ⊢
  exact ⟨h3, h2⟩
theorem wPs_inj : ∀ {a b : List Prn}, a.length = b.length → a.flatMap wP = b.flatMap wP → a = b
  | [], [], _, _ => rfl
  | p :: a, q :: b, hl, h => by
    rw [List.flatMap_cons, List.flatMap_cons] at h
    obtain ⟨h1, h2⟩ := List.append_inj h (by rw [wP_len, wP_len])
    rw [wP_inj h1, wPs_inj (by simpa using hl) h2]
theorem write_inj {M N : CM} (hM : CI M) (hN : CI N) (h : M.write = N.write) : M = N := by
  have hq : ∀ i, i < 4 → M.tail i = N.tail i → M.q i = N.q i ∧ M.tail (i + 1) = N.tail (i + 1) := fun i hi h => by
    rw [tail_succ hM hi, tail_succ hN hi] at h
    exact wQ_inj (hM.qcase i) (hN.qcase i) h
  obtain ⟨a0, h0⟩ := hq 0 (by decide) h
  obtain ⟨a1, h1⟩ := hq 1 (by decide) h0
  obtain ⟨a2, h2⟩ := hq 2 (by decide) h1
  obtain ⟨a3, h3⟩ := hq 3 (by decide) h2
  rw [tail_four hM, tail_four hN] at h3
  have hqs : M.qs = N.qs := by
    obtain ⟨a, b, c, d, e⟩ := hM.of_len
    obtain ⟨a', b', c', d', e'⟩ := hN.of_len
    unfold CM.q at a0 a1 a2 a3
    rw [e, e'] at a0 a1 a2 a3 ⊢
    simp at a0 a1 a2 a3
    simp [a0, a1, a2, a3]
  have lM : ∀ {K : CM}, CI K → K.ps.length < M64 := fun {K} hK => by
    have h2 := hK.many 0
    have h3 := hK.many 1
    have h4 := hK.many 2
    have h5 := hK.many 3
    have h1 : K.ps.length ≤ 16 := by
      have := hK.p
      clear h
      have gen : ∀ (l : List Prn), (∀ x ∈ l, x.slot.toNat < 4) → l.length = l.countP (fun x => x.slot = 0) + l.countP (fun x => x.slot = 1) + l.countP (fun x => x.slot = 2) + l.countP (fun x => x.slot = 3) := by
        intro l
        induction l with
        | nil => intro _; rfl
        | cons x l ih =>
          intro h
          have ih := ih fun y hy => h y (List.mem_cons_of_mem _ hy)
          rw [List.length_cons, List.countP_cons, List.countP_cons, List.countP_cons, List.countP_cons, ih]
          rcases u8lt4 (h x (List.mem_cons_self ..)) with e | e | e | e <;> simp [e] <;> omega
      have := gen K.ps fun x hx => (hK.p x hx).1
      unfold CM.many at h2 h3 h4 h5
      omega
    unfold M64; omega
  have hr := congrArg rN h3
  have hk := congrArg rK h3
  rw [(r_app (lM hM) _).1, (r_app (lM hN) _).1] at hr
  rw [hr] at h3
  have h4 := List.append_cancel_left h3
  have hps := wPs_inj hr h4
  obtain ⟨x, y⟩ := M
  obtain ⟨x', y'⟩ := N
  simp at hqs hps
  rw [hqs, hps]
end Go.Proofs.Ytoecfgldnlglnaa
