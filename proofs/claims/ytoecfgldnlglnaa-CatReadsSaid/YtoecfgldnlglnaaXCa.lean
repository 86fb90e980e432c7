import Derived.Test.YtoecfgldnlglnaaG5
import Derived.Test.YtoecfgldnlglnaaG6
import Derived.Test.YtoecfgldnlglnaaGF
set_option linter.unusedVariables false
set_option linter.unusedSimpArgs false
set_option maxRecDepth 20000
namespace Go.Proofs.Ytoecfgldnlglnaa
open Go Go.Wk

/-- A token: eight bytes. -/
abbrev Tok := { s : ByteArray // s.size = 8 }
def tokC (t : Tok) : List Value := t.1.data.toList.map fun b => .int .u8 b.toNat
abbrev tokV (t : Tok) : Value := .agg (tokC t).toArray
theorem tokC_len (t : Tok) : (tokC t).length = 8 := by
  unfold tokC; rw [List.length_map, Array.length_toList]; exact t.2
theorem u8_toNat_inj {a b : UInt8} (h : a.toNat = b.toNat) : a = b := UInt8.toNat_inj.1 h
theorem tokC_inj (a b : Tok) (h : tokC a = tokC b) : a = b := by
  unfold tokC at h
  have : a.1.data.toList = b.1.data.toList := by
    refine List.map_inj_right (fun x y hxy => ?_) |>.1 h
    simp at hxy
    exact u8_toNat_inj (Int.ofNat_inj.1 hxy)
  exact Subtype.ext (ByteArray.ext (Array.toList_inj.1 this))
theorem okAll_rep {k : SK} : ∀ {n : Nat} {vs : List Value}, vs.length = n → (∀ v ∈ vs, k.ok v = true) → okAll (List.replicate n k) vs = true
  | 0, [], _, _ => rfl
  | n + 1, v :: vs, h, hv => by
    rw [List.replicate_succ, okAll, hv v (List.mem_cons_self ..), okAll_rep (by simpa using h) fun u hu => hv u (List.mem_cons_of_mem _ hu)]; rfl
theorem tokC_ok (t : Tok) : okAll (List.replicate 8 (.i .u8)) (tokC t) = true := okAll_rep (tokC_len t) fun v hv => by
  obtain ⟨b, _, rfl⟩ := List.mem_map.1 hv; rfl
theorem tokC_one (t : Tok) : (tokC t).all Go.Wk.one = true := all_one_map _ fun _ => rfl
theorem kTok : RepK 8 (Flat tokC) := RepK.flat' (by decide) tokC_len tokC_one
theorem fl65 : flatB Try.prog 5 65 = some (List.replicate 8 (.i .u8)) := by kernel_rfl
theorem tokKey : KeyT Try.prog 65 tokV := KeyT.flat fl65 (by decide) (by kernel_rfl) tokC_ok tokC_inj
theorem find_seen {kv : Kv Tok} {seen : Array Nat} {p : Tok × Value × Nat} (hp : p ∈ kv) (hn : p.2.2 ∉ seen) : (kv.countP fun q => decide (q.2.2 ∉ seen.push p.2.2)) < kv.countP fun q => decide (q.2.2 ∉ seen) :=
  countP_lt (fun x _ h => by simp only [decide_eq_true_eq, Array.mem_push, not_or] at h ⊢; exact h.1) hp (by simpa using hn) (by simp)
/-- 'maps.Keys': an iterator, that holds the map. -/
theorem tKeys {R m} : Tri Try.prog 79 [.map (some m)] R [] fun v l' => ∃ k, v = .func (.func 112) #[] #[.pointer (some ⟨k, 0, none⟩)] ∧ l' = [(k, .cells (List.toArray [.map (some m)]) 120 (0, 0))] := by
  refine enter Try.func79 rfl rfl (by kernel_rfl) rfl fun w0 => ?_
  refine seq ?_
  refine reg ?_
  refine bx rfl rfl ?_
  intro b1
  refine q (asg rfl) ?_
  refine en ?_
  refine seq ?_
  refine reg ?_
  refine q (mkF rfl rfl (fun w => rfl)) ?_
  refine q (asg rfl) ?_
  refine en ?_
  refine ret ?_
  exact finQ _ rfl rfl (fun a => Nat.le_refl _) ⟨b1, rfl, rfl⟩
theorem push_filter {α : Type} {kv : Kv α} (hb : (kv.map (·.2.2)).Nodup) {p : α × Value × Nat} (hp : p ∈ kv) {seen : Array Nat} (hn : p.2.2 ∉ seen) : (kv.filter fun q => decide (q.2.2 ∈ seen.push p.2.2)).Perm ((kv.filter fun q => decide (q.2.2 ∈ seen)) ++ [p]) := by
  induction kv with
  | nil => cases hp
  | cons x r ih =>
    simp only [List.map_cons, List.nodup_cons] at hb
    rcases List.mem_cons.1 hp with rfl | hp'
    · rw [List.filter_cons_of_pos (by simp), List.filter_cons_of_neg (by simpa using hn)]
      have : (r.filter fun q => decide (q.2.2 ∈ seen.push p.2.2)) = r.filter fun q => decide (q.2.2 ∈ seen) := by
        refine List.filter_congr fun q hq => ?_
        have : q.2.2 ≠ p.2.2 := fun e => hb.1 (by rw [← e]; exact List.mem_map.2 ⟨q, hq, rfl⟩)
        simp [this]
      rw [this]
      exact (List.perm_append_comm (l₁ := [p])).trans (List.Perm.refl _)
    · have ih' := ih hb.2 hp'
      have hne : x.2.2 ≠ p.2.2 := fun e => hb.1 (by rw [e]; exact List.mem_map.2 ⟨p, hp', rfl⟩)
      by_cases hs : x.2.2 ∈ seen
      · rw [List.filter_cons_of_pos (by simp [hs]), List.filter_cons_of_pos (by simpa using hs)]
        exact ih'.cons x
      · rw [List.filter_cons_of_neg (by simp [hs, hne]), List.filter_cons_of_neg (by simpa using hs)]
        exact ih'
theorem tIter {R k m ck lid lJ} {kv : Kv Tok} {J : List Tok → Bl → Prop} (hb : R k (.cells (List.toArray [.map (some m)]) 120 (0, 0))) (hm : R m (.map (ents tokV kv) ck)) (hk : KvOk kv ck) (h0 : J [] lJ)
    (hY : ∀ pre x lJ' R', (∀ b o, R b o → R' b o) → pre.length < kv.length → J pre lJ' → Yd Try.prog lid [tokV x] R' lJ' (J (pre ++ [x]))) :
    Tri Try.prog 112 [.func (.yield lid) #[] #[], .pointer (some ⟨k, 0, none⟩)] R lJ fun v l' => v = .tuple #[] ∧ ∃ ts, ts.Perm (kv.map (·.1)) ∧ J ts l' := by
  refine enter Try.func112 rfl rfl (by kernel_rfl) rfl fun w0 => ?_
  refine seq ?_
  refine reg ?_
  refine q (ld na120 rfl (by first | exact mR (by assumption) | repeat (first | assumption | exact m0 | apply mS | apply mA)) (by first | rfl | assumption)) ?_
  refine eo (eRg Try.underlying120 rfl (.inl hm)) ?_
  rintro _ _ ⟨it, rfl, rfl⟩
  refine en ?_
  refine blk ?_
  refine cSub (e' := [(0, .func (.yield lid) #[] #[]), (5, .pointer (some ⟨it, 0, none⟩))]) (by repeat first | exact Sub.nil | refine Sub.cons rfl ?_) ?_
  refine loop (fun m' e l => ∃ seen ts lJ', m' = kv.countP (fun p => decide (p.2.2 ∉ seen)) ∧ e = [(0, .func (.yield lid) #[] #[]), (5, .pointer (some ⟨it, 0, none⟩))] ∧ l = (it, .mapIter (some m) ck seen ck) :: lJ' ∧ J ts lJ' ∧ ts.Perm ((kv.filter fun p => decide (p.2.2 ∈ seen)).map (·.1))) _ ⟨#[], [], lJ, rfl, rfl, rfl, h0, by simp⟩ ?_
  rintro m' _ _ ⟨seen, ts, lJ', rfl, rfl, rfl, hJ, hp⟩
  refine seq ?_
  refine reg ?_
  refine eo (eNx hk rfl (.inl hm) (List.mem_cons_self ..)) ?_
  intro v l' hN
  rcases hN with ⟨rfl, rfl, hall⟩ | ⟨⟨n, v0, bn⟩, hpk, hns, rfl, hin⟩
  · refine q (ext rfl rfl) ?_
    refine en ?_
    refine seq ?_
    refine ifF rfl ?_
    refine exi (dSe (dLe (dBe ?_)))
    refine finQN lJ' rfl (fun a => by simp only [cnt_cons]; omega) ⟨rfl, ts, ?_, hJ⟩
    rwa [List.filter_eq_self.2 (fun p hp => by simpa using hall p hp)] at hp
  · simp only at hns hin
    refine oPerm (l' := (it, .mapIter (some m) ck (seen.push bn) ck) :: lJ') (permC fun a => by have := hin.cnt a; simp only [cnt_cons] at *; omega) ?_
    refine q (ext rfl rfl) ?_
    refine en ?_
    refine seq ?_
    refine ifT rfl ?_
    refine skp (dSq ?_)
    refine blk ?_
    refine seq ?_
    refine reg ?_
    refine q (ent hk hpk rfl (.inl hm) m0) ?_
    refine q (ext rfl rfl) ?_
    refine al zr65 rfl ?_
    intro b1
    refine stA sz65 rfl rfl (tokC_len n) (tokC_one n) .h (upAll (by rw [tokC_len]; rfl)) ?_
    refine en ?_
    refine seq ?_
    refine wideW (n := 5) (regF ?_)
    refine qF (by intro k hk; cases hk) (mv rfl) ?_
    refine qF (by intro k hk; cases hk) (ldA ag65 rfl m0 (tkAll (tokC_len n))) ?_
    have hlen : ts.length < kv.length := by
      rw [hp.length_eq, List.length_map]
      refine Nat.lt_of_lt_of_le (?_ : _ < (kv.filter fun p => decide (p.2.2 ∈ seen.push bn)).length) (List.length_filter_le ..)
      rw [← List.countP_eq_length_filter, ← List.countP_eq_length_filter]
      exact countP_lt (fun x _ h => by simp only [decide_eq_true_eq] at h ⊢; exact Array.mem_push.2 (.inl h)) hpk (by simp) (by simpa using hns)
    refine yF rfl rfl ((hY ts n lJ' (fun b o => R b o ∨ (b, o) ∈ [(b1, Obj.cells (List.toArray (tokC n)) 65 (0, 0)), (it, Obj.mapIter (some m) ck (seen.push bn) ck)]) (fun b o h => .inl h) hlen hJ).frame _ |>.perm (List.perm_append_comm (l₁ := [_, _]))) ?_
    rintro _ ⟨lJ2, rfl, hJ2⟩
    refine qF (by intro k hk; cases hk) ((by first | exact bNotd rfl | exact bNot rfl)) ?_
    refine enDF (dnD (dSq ?_))
    refine ifF rfl ?_
    refine skp (dBn ?_)
    refine dSub ((it, .mapIter (some m) ck (seen.push bn) ck) :: lJ2) (fun a => by simp only [cnt_append, cnt_cons, cnt_nil]; omega) (dLp (m' := _) (e' := [(0, .func (.yield lid) #[] #[]), (5, .pointer (some ⟨it, 0, none⟩))]) (find_seen hpk hns) (by repeat first | exact Sub.nil | refine Sub.cons rfl ?_) ?_)
    refine ⟨seen.push bn, ts ++ [n], lJ2, rfl, rfl, rfl, hJ2, ?_⟩
    have hperm : (kv.filter fun p => decide (p.2.2 ∈ seen.push bn)).Perm ((kv.filter fun p => decide (p.2.2 ∈ seen)) ++ [(n, v0, bn)]) := push_filter hk.born hpk hns
    refine (hp.append_right [n]).trans ?_
    have := (hperm.map (·.1)).symm
    rwa [List.map_append] at this
end Go.Proofs.Ytoecfgldnlglnaa

