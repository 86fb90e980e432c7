import Derived.Test.YtoecfgldnlglnaaXLay
import Derived.Test.YtoecfgldnlglnaaXDc
import Derived.Sort.KeysCollected
set_option linter.unusedVariables false
set_option linter.unusedSimpArgs false
set_option maxRecDepth 20000
/-! # The library's functions, as contracts -/
namespace Go.Proofs.Ytoecfgldnlglnaa
open Go Go.Wk Go.Wk.Dsk

/-- A function that hands back a new slice, and leaves what there was. -/
theorem Tri.row {P : Program} {f : FuncId} {args : List Value} {R : Rd} {l : Bl} {E sz n : Nat} {xs : List Value} (h : ∀ w, Rv R l w → Calls P f args.toArray w fun e w' => ∃ v, e = .returned v ∧ w'.ownsRow w.heap.size E sz v n xs ∧ RowKit.Below w.heap.size w w') :
    Tri P f args R l fun v l' => ∃ bk, SlO E sz v xs bk ∧ l' = bk ++ l :=
  fun w hv => (h w hv).mono fun _ w' ⟨v, he, ⟨hl, hr⟩, hb⟩ => by
    have h0 := Hv.below hv hb
    rcases hr with ⟨rfl, rfl⟩ | ⟨g, cap, cur, rfl, hg, hh, hn, _, hc, ht⟩
    · obtain rfl : xs = [] := List.eq_nil_of_length_eq_zero (by rw [hl, Nat.zero_mul])
      exact ⟨_, l, he, ⟨[], .nil, rfl⟩, h0⟩
    · have hcur : cur = (xs ++ cur.toList.drop (n * sz)).toArray := by
        rw [← ht, List.take_append_drop]
      have hsl : SlO E sz (.slice (some ⟨g, 0, none⟩) n cap) xs [(g, .cells (xs ++ cur.toList.drop (n * sz)).toArray E (0, 0))] := .blk hl (by rw [← ht, List.take_append_drop, Array.length_toList, hc]) hn
      rw [hcur] at hh
      refine ⟨_, _, he, ⟨_, hsl, rfl⟩, ?_⟩
      have hng : g ∉ keys l := fun hk => absurd (hv.lt hk) (by omega)
      have hnr : ∀ b o, R b o → b ≠ g := fun b o hr he => absurd (lt_of_get (hv.rd b o hr)) (by omega)
      exact { nd := List.nodup_cons.2 ⟨hng, h0.nd⟩, own := fun b o hk => by
                rcases List.mem_cons.1 hk with hk | hk
                · obtain ⟨rfl, rfl⟩ := Prod.mk.inj hk; exact hh
                · exact h0.own b o hk
              rd := h0.rd, dis := fun b o hr hk => by
                rcases List.mem_cons.1 hk with hk | hk
                · exact hnr b o hr hk
                · exact h0.dis b o hr hk
              new := fun b hk => by
                rcases List.mem_cons.1 hk with hk | hk
                · exact .inr (by rw [hk]; exact hg)
                · exact h0.new b hk
              ext := h0.ext, size := h0.size, os := h0.os, tape := h0.tape, output := h0.output }
theorem addr_add (b o j : Nat) : (⟨b, o, none⟩ : Addr).add j = ⟨b, o + j, none⟩ := by
  unfold Addr.add
  split
  · rename_i h; rw [h]; rfl
  · rfl
theorem join_nil (xs : List (List UInt8)) : Lib.join xs [] = xs.flatten := by
  induction xs with
  | nil => rfl
  | cons x r ih => cases r with
    | nil => simp [Lib.join]
    | cons y r => simp_all [Lib.join]
theorem dJoin {R l s bk} {xs : List ByteArray} (h : SlI 9 1 s (xs.map .string) bk) (hb : ∀ p ∈ bk, Has R l p.1 p.2) (hlen : (joined xs).size ≤ 140737488355328) (hN : xs.length ≤ 140737488355328) :
    Tri Try.prog 54 [s, .string ⟨#[]⟩] R l fun v l' => v = .string (joined xs) ∧ l' = l := by
  have hj : (⟨(Lib.join (xs.map (·.data.toList)) []).toArray⟩ : ByteArray) = joined xs := by
    rw [join_nil]; unfold joined; rw [List.flatMap_def]
  refine Tri.shelf fun w hv => ?_
  generalize hxs : xs.map Value.string = ys at h
  cases h with
  | emp _ =>
    obtain rfl : xs = [] := by simpa using hxs
    refine (Try.strings_Join_none _ _ _ w).mono ?_
    rintro e w' ⟨rfl, rfl⟩
    exact ⟨rfl, .refl _ _⟩
  | @blk b pre _ sp cap n o h1 h2 h3 =>
    subst hxs
    have hg := hv.get (hb _ (List.mem_singleton.2 rfl))
    simp only [List.length_map, Nat.mul_one] at h1
    subst h1
    have hsz : (Lib.join (xs.map (·.data.toList)) []).length ≤ 140737488355328 := by
      rw [← hj] at hlen; simpa [ByteArray.size] using hlen
    refine (Try.strings_Join b o cap xs ⟨#[]⟩ w (fun j x hx => ?_) (lt_of_get hg) hN h3 (by simpa using hsz)).mono ?_
    · have hy : (xs.map Value.string)[j]? = some (.string x) := by rw [List.getElem?_map, hx]; rfl
      exact addr_add b o j ▸ cells_at hg h2 j _ hy
    · rintro e w' ⟨rfl, hb'⟩
      exact ⟨by rw [← hj], hb'⟩
theorem dClone {R l s bk} {xs : List ByteArray} (h : SlI 9 1 s (xs.map .string) bk) (hb : ∀ p ∈ bk, Has R l p.1 p.2) (hN : xs.length ≤ 1000000000) :
    Tri Try.prog 49 [s] R l fun v l' => ∃ bk', SlO 9 1 v (xs.map .string) bk' ∧ l' = bk' ++ l := by
  refine Tri.row (n := xs.length) fun w hv => ?_
  obtain ⟨i0, a1, a2, a3, a4⟩ := inf9.get
  generalize hxs : xs.map Value.string = ys at h
  cases h with
  | @emp p cap hc =>
    obtain rfl : xs = [] := by simpa using hxs
    cases p with
    | none =>
      refine (Try.slices_Clone_nil _ _ w).mono ?_
      rintro e w' ⟨rfl, rfl⟩
      exact ⟨_, rfl, ⟨rfl, .inl ⟨rfl, rfl⟩⟩, .refl _ _⟩
    | some a =>
      refine (Try.slices_Clone_string_zero a cap w).mono ?_
      rintro e w' ⟨v, rfl, ho, _, hb'⟩
      exact ⟨_, rfl, ho, hb'⟩
  | @blk b pre _ sp cap n o h1 h2 h3 =>
    subst hxs
    have hg := hv.get (hb _ (List.mem_singleton.2 rfl))
    simp only [List.length_map, Nat.mul_one] at h1
    subst h1
    refine (Try.slices_Clone i0 _ 1 16 a1 a2 a3 a4 rfl (by decide) sz9 b o xs.length cap (xs.map .string) w (by simp) (by simp only [maxLen]; omega) (by omega) (fun j u hu => addr_add b o j ▸ cells_at hg h2 j u hu) (fun u hu => by obtain ⟨x, _, rfl⟩ := List.mem_map.1 hu; rfl)).mono ?_
    rintro e w' ⟨v, rfl, ho, _, hb'⟩
    exact ⟨_, rfl, ho, hb'⟩
/-! ## The keys of a map, sorted -/
theorem ins_perm {H : Type} (x : Lit × DataW H) : ∀ l, (DataW.insert x l).Perm (x :: l)
  | [] => List.Perm.refl _
  | y :: r => by
    unfold DataW.insert
    split
    · exact List.Perm.refl _
    · exact ((ins_perm x r).cons y).trans (List.Perm.swap x y r)
theorem insAll_perm {H : Type} : ∀ l : List (Lit × DataW H), (l.foldr DataW.insert []).Perm l
  | [] => List.Perm.refl _
  | x :: l => (ins_perm x _).trans ((insAll_perm l).cons x)
/-- Any value stands for one datum. -/
def Rany : Value → Option (DataW Unit × List MemPlace) := fun _ => some (.nil, [])
theorem ownsMap_of {w : World} {m ck : Nat} {kv : Kv ByteArray} (hm : w.heap[m]? = some (.map (ents strV kv) ck)) (hk : KvOk kv ck) (hn : kv.length ≤ 1000000000) (hs : ∀ n ∈ kv.map (·.1), n.size ≤ 1000000000) :
    ∃ D0 : DataW Unit, w.ownsMap Try.prog 9 Rany m kv.length D0 ∧ Maps.size D0 = kv.length ∧ (strKeys D0).Perm (kv.map (·.1.data.toList)) := by
  have hrd : ∀ p ∈ kv, WideElems.rd Try.prog 9 Rany ⟨strV p.1, p.2.1, p.2.2⟩ = some (.string p.1.data.toList, .nil) := fun p hp => by
    have : p.1.size ≤ maxLen := Nat.le_trans (hs _ (List.mem_map_of_mem hp)) (by decide)
    simp [WideElems.rd, keyOf, Try.underlying9, mapKey, strV, Rany, this]
  refine ⟨_, ⟨_, ck, hm, ⟨by simp only [ents, List.size_toArray, List.length_map, maxLen]; omega, ?_, ?_⟩, by simp [ents], rfl⟩, ?_, ?_⟩
  · refine ⟨fun x hx => ?_, ?_, ?_⟩
    · simp only [ents, List.mem_map] at hx
      obtain ⟨p, hp, rfl⟩ := hx
      exact hk.lt p hp
    · simp only [ents, List.map_map]
      exact hk.born
    · simp only [ents, List.map_map]
      have : (kv.map ((fun x : MapEntry => x.key) ∘ fun p => ⟨strV p.1, p.2.1, p.2.2⟩)) = (kv.map (·.1)).map strV := by rw [List.map_map]; rfl
      rw [this]
      exact List.pairwise_map.2 (hk.keys.imp fun h e => h (by simpa [strV] using e))
  · intro x hx
    simp only [ents, List.mem_map] at hx
    obtain ⟨p, hp, rfl⟩ := hx
    exact ⟨_, hrd p hp⟩
  · rw [Maps.size_eq, (insAll_perm _).length_eq]; simp [ents]
  · refine ((insAll_perm _).map (fun p => strOf p.1)).trans ?_
    simp only [ents, List.map_map]
    refine List.Perm.of_eq (List.map_congr_left fun p hp => ?_)
    simp [Function.comp, WideElems.rg, hrd p hp, strOf]
/-- 'maps.Keys': an iterator, that holds the map. -/
theorem dKeys {R l m} : Tri Try.prog 51 [.map (some m)] R l fun v l' => ∃ k, v = .func (.func 95) #[] #[.pointer (some ⟨k, 0, none⟩)] ∧ l' = (k, .cells (List.toArray [.map (some m)]) 98 (0, 0)) :: l := fun w hv => by
  refine ((callsIn_wide (n := 5)).1 (AnyZ.keys_in Try.keys51 Fence.wide 5 trivial rfl (some m) w)).mono ?_
  rintro e w' ⟨rfl, rfl⟩
  exact ⟨_, _, rfl, ⟨w.heap.size, rfl, rfl⟩, (Hv.below hv (.refl _ _)).alloc _⟩
theorem bytesEq (n : ByteArray) : (⟨n.data.toList.toArray⟩ : ByteArray) = n := by simp
set_option maxHeartbeats 1000000 in
/-- 'slices.Sorted' at what 'maps.Keys' handed back. -/
theorem dSorted {R l m k ck} {kv : Kv ByteArray} {ns : List ByteArray} (hb : Has R l k (.cells (List.toArray [.map (some m)]) 98 (0, 0))) (hm : Has R l m (.map (ents strV kv) ck)) (hk : KvOk kv ck) (hn : kv.length ≤ 1000000000) (hs : ∀ n ∈ kv.map (·.1), n.size ≤ 1000000000)
    (hp : ns.Perm (kv.map (·.1))) (hso : ns.Pairwise fun a b => sLt a b = true) :
    Tri Try.prog 50 [.func (.func 95) #[] #[.pointer (some ⟨k, 0, none⟩)]] R l fun v l' => ∃ bk, SlO 9 1 v (ns.map .string) bk ∧ l' = bk ++ l := by
  refine Tri.row (n := ns.length) fun w hv => (callsIn_wide (n := 5)).1 ?_
  obtain ⟨D0, ho, hz, hst⟩ := ownsMap_of (hv.get hm) hk hn hs
  have hseq : SeqGives Fence.wide 2 Try.prog 95 #[.pointer (some ⟨k, 0, none⟩)] encStr (fun ss => ss.Perm (strKeys D0)) (Maps.size D0) w :=
    AnyZ.keys_gives (ρ := Try.keys51_ren) { Try.keys51 with } Fence.wide _ trivial rfl (by omega) k m kv.length D0 w (lt_of_get (hv.get hb)) (cell_of (hv.get hb) rfl) ho
  refine (AnyZ.sorted_in Try.sorted50 Fence.wide 5 trivial trivial trivial trivial rfl (by omega) (Try.sorts50 _) (enters_of Try.func94 (by kernel_rfl) rfl) 95 #[.pointer (some ⟨k, 0, none⟩)] trivial (enters_of Try.func95 (by kernel_rfl) rfl) _ _ (by rw [hz]; simp only [maxLen]; omega) (by rw [hz]; omega) w hseq).mono ?_
  rintro e w' ⟨v, ss, rfl, hS, hrow, _, hbl⟩
  have hsort : ss.mergeSort leB = ns.map (·.data.toList) := by
    have h1 : ss.Perm (ns.map (·.data.toList)) := (hS.trans hst).trans (by have := (hp.map (·.data.toList)).symm; rw [List.map_map] at this; exact this)
    rw [mergeSort_of_perm h1]
    refine List.mergeSort_of_pairwise (List.pairwise_map.2 (hso.imp fun {a b} h => ?_))
    rw [sLt_eq] at h
    exact decide_eq_true (List.le_of_lt (of_decide_eq_true h))
  have hmap : (ss.mergeSort leB).map encStr = ns.map Value.string := by rw [hsort, List.map_map]; exact List.map_congr_left fun n _ => by simp [encStr]
  have hlen : ss.length = ns.length := by have := congrArg List.length hsort; simpa [List.length_mergeSort] using this
  refine ⟨v, rfl, ?_, hbl⟩
  rw [← hlen, ← hmap]
  exact hrow
end Go.Proofs.Ytoecfgldnlglnaa
