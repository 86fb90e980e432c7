import Derived.Test.YtoecfgldnlglnaaXCa
set_option linter.unusedVariables false
set_option linter.unusedSimpArgs false
set_option maxRecDepth 20000
namespace Go.Proofs.Ytoecfgldnlglnaa
open Go Go.Wk

abbrev OTok (v : Value) (ts : List Tok) (bk : Bl) : Prop := OSl 65 8 (Flat tokC) (fun _ _ => False) v ts bk
/-- What has come, between two rounds. -/
def ApJ (lid D Bs : Nat) (rec : Loop) (ts : List Tok) (l : Bl) : Prop :=
  ∃ v bk, l = (lid, .loop rec) :: (D, .deferred (some [])) :: (Bs, .cells (List.toArray [v]) 77 (0, 0)) :: bk ∧ OTok v ts bk
theorem tAppend {R k m ck} {kv : Kv Tok} (hb : R k (.cells (List.toArray [.map (some m)]) 120 (0, 0))) (hm : R m (.map (ents tokV kv) ck)) (hk : KvOk kv ck) (hn : kv.length ≤ 1000000) :
    Tri Try.prog 119 [.slice none 0 0, .func (.func 112) #[] (List.toArray [.pointer (some ⟨k, 0, none⟩)])] R [] fun v l' => ∃ ts : List Tok, ts.Perm (kv.map (·.1)) ∧ OTok v ts l' := by
  refine enterM Try.func119 rfl rfl (by kernel_rfl) rfl fun w0 => ?_
  refine seqF (regF ?_)
  refine eoF (by intro k hk; cases hk) (eBx rfl rfl) ?_
  rintro _ _ ⟨Bs, rfl, rfl⟩
  refine qF (by intro k hk; cases hk) (asg rfl) ?_
  refine enDF (dSqF (seqF (seqF (regF ?_))))
  refine qF (by intro k hk; cases hk) (mv rfl) ?_
  refine enDF (dSqF (blkF ?_))
  refine rgF (S := fun l2 => ∃ ts : List Tok, ts.Perm (kv.map (·.1)) ∧ ∃ v bk, l2 = (Bs, .cells (List.toArray [v]) 77 (0, 0)) :: bk ∧ OTok v ts bk) rfl fb112 ?_ ?_
  · intro lid D fn tmps hag
    generalize hrec : Loop.mk .ready none fn tmps #[7] _ _ D = rec
    refine (tIter (J := ApJ lid D Bs rec) hb hm hk ⟨_, [], rfl, OSl.nil⟩ ?_).mono ?_
    · rintro pre x lJ' R' hR hlen ⟨v, bk, rfl, hO⟩
      obtain ⟨p, cap, rfl⟩ := hO.val kTok
      subst hrec
      refine Yd.mk (nt := 13) (t := 7) (e := [(2, .pointer (some ⟨Bs, 0, none⟩))]) (List.mem_cons_self ..) rfl (by decide) (hag.sub (by repeat first | exact Sub.nil | refine Sub.cons rfl ?_)) ⟨by kernel_rfl, by kernel_rfl⟩ fun w1 m' => ?_
      refine regF ?_
      refine eoF (by intro k hk; cases hk) (eAl zr65 rfl) ?_
      rintro _ _ ⟨b5, rfl, rfl⟩
      refine eoF (by intro k hk; cases hk) (eStA sz65 rfl rfl (tokC_len x) (tokC_one x) .h (upAll (by rw [tokC_len]; rfl))) ?_
      rintro _ _ rfl
      refine enDF (dBg (.t .h) rfl ?_)
      generalize hrb : Loop.mk .busy none fn tmps #[7] _ _ D = rb
      refine blkF (regF ?_)
      refine qF (by intro k hk; cases hk) (ld na77 rfl (by first | exact mR (by assumption) | repeat (first | assumption | exact m0 | apply mS | apply mA)) rfl) ?_
      refine qF (by intro k hk; cases hk) (ldA ag65 rfl m0 (tkAll (tokC_len x))) ?_
      refine apOF (l2 := (b5, .cells (tokC x).toArray 65 (0, 0)) :: (lid, .loop rb) :: (D, .deferred (some [])) :: (Bs, .cells (List.toArray [.slice p pre.length cap]) 77 (0, 0)) :: []) Try.underlying77 in65 rfl kTok hO (a := x) rfl (by omega) (by omega) (by decide) (fun a => by simp only [cnt_append, cnt_cons, cnt_nil]; omega) (fun _ => rfl) rfl rfl ?_
      intro v2 bk2 u2 hO2
      obtain ⟨p2, cap2, rfl⟩ := hO2.val kTok
      refine eoF (by intro k hk; cases hk) (eSt sz77 rfl rfl rfl (.r (.t (.t (.t .h)))) .z) ?_
      rintro _ _ rfl
      refine enDF (dBnF ?_)
      intro w2 hv2 a2 ha2
      refine dEr (r := rb) (l := (lid, .loop rb) :: (D, .deferred (some [])) :: (Bs, .cells (List.toArray [.slice p2 (pre ++ [x]).length cap2]) 77 (0, 0)) :: bk2) (e := _) .h ?_ w2 (hv2.subC (fun a => by simp only [cnt_append, cnt_cons, cnt_nil]; omega)) a2 ha2
      subst hrb
      exact ⟨_, bk2, rfl, hO2⟩
    · rintro v l' ⟨_, ts, hp, v', bk, rfl, hO⟩
      subst hrec
      exact ⟨_, _, rfl, rfl, rfl, ts, hp, v', bk, rfl, hO⟩
  · rintro D _ ⟨ts, hp, v, bk, rfl, hO⟩
    refine dBnF (dSqF (seqF (regF ?_)))
    refine qF (by intro k hk; cases hk) (ld na77 rfl m1 rfl) ?_
    refine qF (by intro k hk; cases hk) (asg rfl) ?_
    refine enDF (dSqF (retF ?_))
    exact finM (rs := [.tmp 4]) rfl rfl (fun a => by simp only [cnt_cons]; omega) ⟨ts, hp, hO⟩
/-- slices.Collect -/
theorem tCollect {R k m ck} {kv : Kv Tok} (hb : R k (.cells (List.toArray [.map (some m)]) 120 (0, 0))) (hm : R m (.map (ents tokV kv) ck)) (hk : KvOk kv ck) (hn : kv.length ≤ 1000000) :
    Tri Try.prog 110 [.func (.func 112) #[] (List.toArray [.pointer (some ⟨k, 0, none⟩)])] R [] fun v l' => ∃ ts : List Tok, ts.Perm (kv.map (·.1)) ∧ OTok v ts l' := by
  refine enter Try.func110 rfl rfl (by kernel_rfl) rfl fun w0 => ?_
  refine seq ?_
  refine reg ?_
  refine q (asg rfl) ?_
  refine en ?_
  refine seq ?_
  refine reg ?_
  refine q (mv rfl) ?_
  refine cl0 fb119 rfl (tAppend (.inl hb) (.inl hm) hk hn) ?_
  rintro v nw ⟨ts, hp, hO⟩
  refine q (asg rfl) ?_
  refine en ?_
  refine ret ?_
  exact finQ nw rfl rfl (fun a => by first | (simp only [cnt_append, cnt_cons, cnt_nil, id]; done) | (simp only [cnt_append, cnt_cons, cnt_nil, id]; omega)) ⟨ts, hp, hO⟩
end Go.Proofs.Ytoecfgldnlglnaa

