import Derived.Test.YtoecfgldnlglnaaXDe
import Derived.Test.YtoecfgldnlglnaaXDskQ
set_option linter.unusedVariables false
set_option linter.unusedSimpArgs false
set_option maxRecDepth 20000
namespace Go.Proofs.Ytoecfgldnlglnaa
open Go Go.Wk Go.Wk.Dsk

theorem drop_cons {α : Type} {l : List α} {i : Nat} {x : α} (h : l[i]? = some x) : l.drop i = x :: l.drop (i + 1) := by
  obtain ⟨hi, rfl⟩ := List.getElem?_eq_some_iff.1 h
  exact List.drop_eq_getElem_cons hi
theorem names_put {fs : Fs} {n f} (h : n ∈ fs.map (·.1)) (hs : Sd fs) : (put fs n f).map (·.1) = fs.map (·.1) := by
  induction fs with
  | nil => simp at h
  | cons p r ih =>
    obtain ⟨m, g⟩ := p
    unfold put
    by_cases e : n = m
    · rw [if_pos e, e]; rfl
    · rw [if_neg e]
      have hr : n ∈ r.map (·.1) := by simpa [e] using h
      have hm : sLt m n = true := by
        obtain ⟨q, hq, rfl⟩ := List.mem_map.1 hr
        exact (List.pairwise_cons.1 hs).1 q hq
      rw [sLt_asymm hm]
      simp only [Bool.false_eq_true, if_false, List.map_cons]
      rw [ih hr (List.pairwise_cons.1 hs).2]
/-- Where a crash stands, the names up to i done. -/
structure CrI (D : DM) (K : Nat) (keep torn : List Int) (d m b1 : Nat) (v bx : Value) (bkn : Bl) (box : Obj) (m' : Nat) (e : Env) (l : Bl) (i k : Nat) (fs' fs2 : Fs) (kv : Kv ByteArray) (ck : Nat) (bl : Bl) : Prop where
  hm : m' = D.fs.length - i
  hi : i ≤ D.fs.length
  hk : k ≤ i
  he : e = [(0, .pointer (some ⟨d, 0, none⟩)), (3, .pointer (some ⟨b1, 0, none⟩)), (4, .int .i64 k), (14, v), (15, .int .i64 D.fs.length), (16, .int .i64 i)]
  hl : l = (d, dO (some m) true D.fuse) :: (m, .map (ents strV kv) ck) :: bl ++ ((b1, box) :: bkn)
  kvo : KvOk kv ck
  fl : Fls kv fs2 bl
  pm : fs2.Perm fs'
  ok : DOk K { D with off := true, fs := fs' }
  nm : fs'.map (·.1) = D.fs.map (·.1)
  eq : crashN keep torn ((names D).drop i) fs' k = crashes keep torn D.fs 0
theorem dCrash {R l d D sk st keep torn K} (hD : IsD d D l) (hO : DOk K D) (hK : K ≤ 1000) (hk : SlV 1 R sk (keep.map (.int .i64))) (ht : SlV 1 R st (torn.map (.int .i64)))
    (hkl : keep.length ≤ 1000000000) (htl : torn.length ≤ 1000000000) (htI : ∀ x ∈ torn, -9223372036854775808 ≤ x ∧ x ≤ 9223372036854775807) :
    Tri Try.prog 21 [.pointer (some ⟨d, 0, none⟩), .agg (List.toArray [sk, st])] R l fun v l' => v = .tuple #[] ∧ IsD d (crash D keep torn) l' := by
  obtain ⟨m, kv, ck, bl, fs, rfl, hkv, hF, hp⟩ := hD
  obtain ⟨pk, nk, capk, rfl, hlk⟩ := hk.len
  obtain ⟨pt, nt, capt, rfl, hlt⟩ := ht.len
  have hON : DOk K { D with off := true } := ⟨hO.sd, hO.len, hO.file, hO.fuse⟩
  refine enter Try.func21 rfl rfl (by kernel_rfl) rfl fun w0 => ?_
  refine seq ?_
  refine reg ?_
  refine bx rfl rfl ?_
  intro b1
  refine en ?_
  refine seq ?_
  refine seq ?_
  refine reg ?_
  refine q (mv rfl) ?_
  refine cl fb48 rfl (dNone (mS m0)) ?_
  rintro v l' ⟨rfl, rfl⟩
  refine en ?_
  refine ifF rfl ?_
  refine skp (dSq ?_)
  refine seq ?_
  refine reg ?_
  refine q (mv rfl) ?_
  refine q (nck rfl) ?_
  refine q (fa fo100_1 rfl) ?_
  refine st sz4 rfl rfl rfl (by repeat (first | exact .h | apply In.t | apply In.r)) (by repeat constructor) ?_
  refine en ?_
  refine seq ?_
  refine reg ?_
  refine q (asg rfl) ?_
  refine en ?_
  refine seq ?_
  refine reg ?_
  refine q (mv rfl) ?_
  refine clQ fb20 rfl ((d, dO (some m) true D.fuse) :: (m, .map (ents strV kv) ck) :: bl) [(b1, .cells (List.toArray [.slice pk nk capk, .slice pt nt capt]) 25 (0, 0))] (fun a => by simp only [cnt_append, cnt_cons, cnt_nil, dO]; omega) (dList (D := { D with off := true }) ⟨m, kv, ck, bl, fs, rfl, hkv, hF, hp⟩ hO.sd (by have := hO.len; simp only; omega) (fun n hn => by
    obtain ⟨q, hq, rfl⟩ := List.mem_map.1 hn
    have := (hO.file q hq).2; omega)) ?_
  rintro v _ ⟨bkn, hsl, rfl⟩
  obtain ⟨pn, nn, capn, rfl, hln⟩ := hsl.toI.len
  simp only [List.length_map, Nat.mul_one] at hln
  refine q (lnL Try.underlying33 rfl) ?_
  refine q (mv rfl) ?_
  refine en ?_
  refine blk ?_
  have hnn : nn = D.fs.length := by rw [← hln]; simp [names]
  subst hnn
  have hcr0 : crashN keep torn (names D) D.fs 0 = crashes keep torn D.fs 0 := by
    have := crashN_eq keep torn D.fs [] 0 (by simpa using hO.sd)
    simpa [names] using this
  have hlen1 := hO.len
  refine cSub (e' := [(0, .pointer (some ⟨d, 0, none⟩)), (3, .pointer (some ⟨b1, 0, none⟩)), (4, .int .i64 (0 : Nat)), (14, .slice pn D.fs.length capn), (15, .int .i64 D.fs.length), (16, .int .i64 (0 : Nat))]) (by repeat first | exact Sub.nil | refine Sub.cons rfl ?_) ?_
  refine cPerm (l' := (d, dO (some m) true D.fuse) :: (m, .map (ents strV kv) ck) :: bl ++ ((b1, .cells (List.toArray [.slice pk nk capk, .slice pt nt capt]) 25 (0, 0)) :: bkn)) (permC fun a => by simp only [cnt_append, cnt_cons, cnt_nil]; omega) ?_
  refine loop (fun m' e l => ∃ i k fs' fs2 kv ck bl, CrI D K keep torn d m b1 (.slice pn D.fs.length capn) .nilIface bkn (.cells (List.toArray [.slice pk nk capk, .slice pt nt capt]) 25 (0, 0)) m' e l i k fs' fs2 kv ck bl) D.fs.length ⟨0, 0, D.fs, fs, kv, ck, bl, rfl, Nat.zero_le _, Nat.le_refl _, rfl, rfl, hkv, hF, hp, hON, rfl, hcr0⟩ ?_
  rintro m' _ _ ⟨i, k, fs', fs2, kv, ck, bl, rfl, hi, hki, rfl, rfl, hkv, hF, hp, hO', hnm, hcr⟩
  refine seq ?_
  refine reg ?_
  refine q (bLss rfl rfl) ?_
  refine en ?_
  refine seq ?_
  refine ifd rfl (fun h => ?_) (fun h => ?_)
  · have hi' : i < D.fs.length := by omega
    obtain ⟨n, hn⟩ : ∃ n, (names D)[i]? = some n := ⟨_, List.getElem?_eq_getElem (by simp [names]; exact hi')⟩
    obtain ⟨bN, oN, csN, rfl, hnn, hbN, hvN⟩ := hsl.toI.at1 (i := i) (v := .string n) (by rw [List.getElem?_map]; show Option.map _ ((names D)[i]?) = _; rw [hn]; rfl)
    subst hbN
    have hHN : ∀ {A : Bl}, Has R (A ++ [(bN, .cells (List.toArray csN) 9 (0, 0))]) bN (.cells (List.toArray csN) 9 (0, 0)) := mA m0
    have hmem : n ∈ fs'.map (·.1) := by rw [hnm]; exact List.mem_of_getElem? hn
    obtain ⟨s, bk, rst, e1, e2, e3, e4, e5, _⟩ := hF.at n
    rw [get_perm hp hO'.sd.nodup] at e1 e3
    obtain ⟨f, hgf⟩ : ∃ f, Dsk.get fs' n = some f := by
      cases hg : Dsk.get fs' n with
      | some f => exact ⟨f, rfl⟩
      | none => exact absurd hmem (get_none.1 hg)
    rw [hgf] at e1 e3
    simp only [Option.getD_some] at e1 e3
    have hfo : FOk K f := (hO'.file _ (get_mem hgf)).1
    obtain ⟨p, nr, cap, rfl, hlr⟩ := e3.len
    simp only [List.length_map, Nat.mul_one] at hlr
    refine skp (dSq ?_)
    refine seq ?_
    refine blk ?_
    refine seq ?_
    refine reg ?_
    refine q (ia Try.underlying33 sz9 rfl rfl (by omega) (by omega)) ?_
    refine q (ld na9 rfl (by first | exact mR (by assumption) | repeat (first | assumption | exact m0 | apply mS | apply mA)) (by first | rfl | assumption)) ?_
    refine q (asg rfl) ?_
    refine en ?_
    refine seq ?_
    refine reg ?_
    refine q (mv rfl) ?_
    refine q (nck rfl) ?_
    refine q (fa fo100_0 rfl) ?_
    refine q (ld na98 rfl (by first | exact mR (by assumption) | repeat (first | assumption | exact m0 | apply mS | apply mA)) (by first | rfl | assumption)) ?_
    refine q (mv rfl) ?_
    refine q ((lk Try.underlying98 (KeyT.str Try.underlying9) zr102 rfl rfl (mS m0)).to e1) ?_
    refine al zr102 rfl ?_
    intro b2
    refine stA sz102 rfl rfl rfl rfl (by repeat (first | exact .h | apply In.t | apply In.r)) (by repeat constructor) ?_
    refine en ?_
    refine seq ?_
    refine seq ?_
    refine reg ?_
    refine q (fa fo102_1 rfl) ?_
    refine q (ld na3 rfl (by first | exact mR (by assumption) | repeat (first | assumption | exact m0 | apply mS | apply mA)) (by first | rfl | assumption)) ?_
    refine q (fa fo102_0 rfl) ?_
    refine q (ld na33 rfl (by first | exact mR (by assumption) | repeat (first | assumption | exact m0 | apply mS | apply mA)) (by first | rfl | assumption)) ?_
    refine q (lnL Try.underlying33 rfl) ?_
    refine q (bLss rfl rfl) ?_
    refine en ?_
    refine ifd rfl (fun h => ?_) (fun h => ?_)
    · refine seq ?_
      refine reg ?_
      refine q (ldA ag102 rfl (by first | exact mR (by assumption) | repeat (first | assumption | exact m0 | apply mS | apply mA)) (by first | assumption | repeat constructor)) ?_
      refine q (ldA ag25 rfl (by first | exact mR (by assumption) | repeat (first | assumption | exact m0 | apply mS | apply mA)) (by first | assumption | repeat constructor)) ?_
      refine q (mv rfl) ?_
      have hbk : ∀ {A : Bl}, ∀ x ∈ bk, Has R ((b2, .cells (List.toArray [.slice p nr cap, .int .i64 f.synced, .bool f.cut, .string f.torn]) 102 (0, 0)) :: (d, dO (some m) true D.fuse) :: (m, .map (ents strV kv) ck) :: (bl ++ A)) x.1 x.2 := fun x hx => mS (mS (mS (mL (.inr (e4.mem_iff.2 (List.mem_append_left _ hx))))))
      refine cl fb52 rfl ((fCrash (keep := keep) (torn := torn) (k := k) e3 hbk hk ht hfo.syn (by have := hfo.len; omega) hkl htl (by omega) (fun r hr => by have := hfo.rcs r hr; omega) htI)) ?_
      rintro _ _ ⟨s2, rfl, hs2, rfl⟩
      obtain ⟨p2, n2, cap2, rfl, _⟩ := hs2.len
      unfold fileV
      refine stA sz102 rfl rfl rfl rfl (by repeat (first | exact .h | apply In.t | apply In.r)) (by repeat constructor) ?_
      refine en ?_
      refine reg ?_
      refine q (mv rfl) ?_
      refine q (by first | exact bAddi rfl rfl (by omega) | exact bAdd rfl rfl) ?_
      refine q (asg rfl) ?_
      refine en ?_
      refine drw (by kernel_rfl) [(.q, 0), (.q, 1), (.q, 2), (.q, 3), (.q, 4), (.q, 5), (.s, 6)] _ rfl (by kernel_rfl) (by kernel_rfl) trivial ?_
      refine xq rfl (mv rfl) ?_
      refine xq rfl (nck rfl) ?_
      refine xq rfl (fa fo100_0 rfl) ?_
      refine xq rfl (ld na98 rfl (by first | exact mR (by assumption) | repeat (first | assumption | exact m0 | apply mS | apply mA)) (by first | rfl | assumption)) ?_
      refine xq rfl (mv rfl) ?_
      refine xq rfl (ldA ag102 rfl (by first | exact mR (by assumption) | repeat (first | assumption | exact m0 | apply mS | apply mA)) (by first | assumption | repeat constructor)) ?_
      refine xs rfl (eUp Try.underlying98 (KeyT.str Try.underlying9) rfl rfl rfl (.t (.t .h))) ?_
      rintro _ _ rfl
      refine dBn (dSq ?_)
      refine reg ?_
      refine q (by first | exact bAddi rfl rfl (by omega) | exact bAdd rfl rfl) ?_
      refine q (mv rfl) ?_
      refine enD ?_
      obtain ⟨bl', f1, f2⟩ := e5 (.slice p2 n2 cap2) (crashF f keep torn k) bk ck hs2
      refine dSub ((d, dO (some m) true D.fuse) :: (m, .map (ents strV (setK kv n (.agg (fileV (.slice p2 n2 cap2) (crashF f keep torn k)).toArray) ck)) (ckK kv n ck)) :: bl' ++ ((b1, .cells (List.toArray [.slice pk nk capk, .slice pt nt capt]) 25 (0, 0)) :: [(bN, .cells (List.toArray csN) 9 (0, 0))])) (fun a => by have := e4.cnt a; have := f2.cnt a; simp only [cnt_append, cnt_cons, cnt_nil, fileV, dO, List.append_eq] at *; omega) ?_
      refine dLp (m' := D.fs.length - (i + 1)) (e' := [(0, .pointer (some ⟨d, 0, none⟩)), (3, .pointer (some ⟨b1, 0, none⟩)), (4, .int .i64 (k + 1 : Nat)), (14, .slice (some ⟨bN, oN, none⟩) D.fs.length capn), (15, .int .i64 D.fs.length), (16, .int .i64 (i + 1 : Nat))]) (by omega) (by repeat first | exact Sub.nil | refine Sub.cons rfl ?_) ?_
      exact ⟨i + 1, k + 1, put fs' n (crashF f keep torn k), _, _, _, bl', rfl, by omega, by omega, rfl, rfl, hkv.set _ _, f1, put_setF hp hO'.sd _ _, DOk.putIn (D := { D with off := true, fs := fs' }) hO' hfo.crash hmem, by rw [names_put hmem hO'.sd]; exact hnm, by rw [← hcr, drop_cons hn]; simp only [crashN, hgf, Option.getD_some, hlr]; rw [if_pos (by omega)]⟩
    · refine skp (dSq ?_)
      refine drw (by kernel_rfl) [(.q, 0), (.q, 1), (.q, 2), (.q, 3), (.q, 4), (.q, 5), (.s, 6)] _ rfl (by kernel_rfl) (by kernel_rfl) trivial ?_
      refine xq rfl (mv rfl) ?_
      refine xq rfl (nck rfl) ?_
      refine xq rfl (fa fo100_0 rfl) ?_
      refine xq rfl (ld na98 rfl (by first | exact mR (by assumption) | repeat (first | assumption | exact m0 | apply mS | apply mA)) (by first | rfl | assumption)) ?_
      refine xq rfl (mv rfl) ?_
      refine xq rfl (ldA ag102 rfl (by first | exact mR (by assumption) | repeat (first | assumption | exact m0 | apply mS | apply mA)) (by first | assumption | repeat constructor)) ?_
      refine xs rfl (eUp Try.underlying98 (KeyT.str Try.underlying9) rfl rfl rfl (.t (.t .h))) ?_
      rintro _ _ rfl
      refine dBn (dSq ?_)
      refine reg ?_
      refine q (by first | exact bAddi rfl rfl (by omega) | exact bAdd rfl rfl) ?_
      refine q (mv rfl) ?_
      refine enD ?_
      obtain ⟨bl', f1, f2⟩ := e5 (.slice p nr cap) f bk ck e3
      refine dSub ((d, dO (some m) true D.fuse) :: (m, .map (ents strV (setK kv n (.agg (fileV (.slice p nr cap) f).toArray) ck)) (ckK kv n ck)) :: bl' ++ ((b1, .cells (List.toArray [.slice pk nk capk, .slice pt nt capt]) 25 (0, 0)) :: [(bN, .cells (List.toArray csN) 9 (0, 0))])) (fun a => by have := e4.cnt a; have := f2.cnt a; simp only [cnt_append, cnt_cons, cnt_nil, fileV, dO, List.append_eq] at *; omega) ?_
      refine dLp (m' := D.fs.length - (i + 1)) (e' := [(0, .pointer (some ⟨d, 0, none⟩)), (3, .pointer (some ⟨b1, 0, none⟩)), (4, .int .i64 (k : Nat)), (14, .slice (some ⟨bN, oN, none⟩) D.fs.length capn), (15, .int .i64 D.fs.length), (16, .int .i64 (i + 1 : Nat))]) (by omega) (by repeat first | exact Sub.nil | refine Sub.cons rfl ?_) ?_
      exact ⟨i + 1, k, put fs' n f, _, _, _, bl', rfl, by omega, by omega, rfl, rfl, hkv.set _ _, f1, put_setF hp hO'.sd _ _, DOk.putIn (D := { D with off := true, fs := fs' }) hO' hfo hmem, by rw [names_put hmem hO'.sd]; exact hnm, by rw [← hcr, drop_cons hn]; simp only [crashN, hgf, Option.getD_some, hlr]; rw [if_neg (by omega)]⟩
  · have hi' : i = D.fs.length := by omega
    subst hi'
    refine exi (dSe (dLe (dBe ?_)))
    have hdr : (names D).drop D.fs.length = [] := List.drop_eq_nil_of_le (by simp [names])
    rw [hdr] at hcr
    exact finQN ((d, dO (some m) true D.fuse) :: (m, .map (ents strV kv) ck) :: bl) rfl (fun a => by simp only [cnt_append, cnt_cons, cnt_nil]; omega) ⟨rfl, m, kv, ck, bl, fs2, rfl, hkv, hF, by show fs2.Perm (crashes keep torn D.fs 0); rw [← hcr]; exact hp⟩
end Go.Proofs.Ytoecfgldnlglnaa

