import Derived.Test.YtoecfgldnlglnaaXCc
import Derived.Test.YtoecfgldnlglnaaXLay2
import Derived.Lib.Bytealg
set_option linter.unusedVariables false
set_option linter.unusedSimpArgs false
set_option maxRecDepth 20000
namespace Go.Proofs.Ytoecfgldnlglnaa
open Go Go.Wk Go.Sort

theorem cmpB (a b : List UInt8) : Lib.compareBytes a b = if a < b then -1 else if b < a then 1 else 0 := by
  induction a generalizing b with
  | nil => cases b with
    | nil => simp [Lib.compareBytes]
    | cons b bs => simp [Lib.compareBytes]
  | cons a la ih => cases b with
    | nil => simp [Lib.compareBytes]
    | cons b lb =>
      rw [Lib.compareBytes, ih]
      simp only [List.cons_lt_cons_iff]
      by_cases h1 : a < b
      · simp [h1]
      · by_cases h2 : b < a
        · have : ¬ a = b := fun e => by subst e; exact h1 h2
          simp [h1, h2, this]
        · have e : a = b := by
            apply UInt8.toNat_inj.1
            rw [UInt8.lt_iff_toNat_lt] at h1 h2
            omega
          subst e
          simp [h1]
abbrev tcf (x y : Tok) : Int := Extern.BytealgCompare.cmp x.1 y.1
abbrev tlt (x y : Tok) : Bool := sLt x.1 y.1
abbrev tle (x y : Tok) : Bool := !(tlt y x)
theorem lt_tcf : ltOf tcf = tlt := by
  funext x y
  unfold ltOf tcf tlt
  rw [Lib.cmp_eq, cmpB, sLt_eq]
  by_cases h : x.1.data.toList < y.1.data.toList
  · simp [h]
  · rw [if_neg h]
    split <;> simp [h]
theorem swo_tcf : SWO (ltOf tcf) := by
  rw [lt_tcf]
  refine ⟨fun x => sLt_irrefl _, fun x y z h1 h2 => sLt_trans h1 h2, fun x y z h1 h2 => ?_⟩
  by_cases e1 : x = y
  · subst e1; exact h2
  · have h3 : tlt y x = true := sLt_tri h1 (fun e => e1 (Subtype.ext e))
    by_cases e2 : y = z
    · subst e2; exact h1
    · have h4 : tlt z y = true := sLt_tri h2 (fun e => e2 (Subtype.ext e))
      exact sLt_asymm (sLt_trans h4 h3)
instance : Inhabited Tok := ⟨⟨⟨#[0, 0, 0, 0, 0, 0, 0, 0]⟩, rfl⟩⟩
theorem flatK_eq (ts : List Tok) : flatK tokC 8 ts.toArray = ((ts.map tokC).flatten).toArray := by
  have hl : ∀ c ∈ ts.map tokC, c.length = 8 := fun c hc => by obtain ⟨t, _, rfl⟩ := List.mem_map.1 hc; exact tokC_len t
  have hf : ((ts.map tokC).flatten).length = ts.length * 8 := by rw [flat_len hl, List.length_map]
  refine ext_get! (by rw [size_flatK]; simp only [List.size_toArray]; omega) fun j hj => ?_
  rw [size_flatK, List.size_toArray] at hj
  have hi : j / 8 < ts.length := by omega
  rw [get_flatK _ _ _ _ (by simpa using hj), getElem!_pos ts.toArray (j / 8) (by simpa using hi)]
  have h1 : (ts.map tokC)[j / 8]? = some (tokC ts[j / 8]) := by rw [List.getElem?_map, List.getElem?_eq_getElem hi]; rfl
  have h2 := flat_at hl h1 (j := j % 8) (by omega)
  rw [show j / 8 * 8 + j % 8 = j by omega] at h2
  have h3 : j % 8 < (tokC ts[j / 8]).length := by rw [tokC_len]; omega
  rw [List.getElem_toArray, getElem!_pos (tokC ts[j / 8]) (j % 8) h3, getElem!_pos ((ts.map tokC).flatten).toArray j (by simp only [List.size_toArray]; omega), List.getElem_toArray]
  rw [List.getElem?_eq_getElem h3, List.getElem?_eq_getElem (by omega)] at h2
  exact (Option.some.inj h2).symm
theorem putCells_eq (F F' sp : List Value) (h : F.length = F'.length) : putCells id 0 F'.toArray (F ++ sp).toArray = (F' ++ sp).toArray := by
  unfold putCells
  apply Array.ext (by simp; omega)
  intro j h1 h2
  simp only [Array.size_mapIdx, List.size_toArray, List.length_append] at h1
  rw [Array.getElem_mapIdx]
  by_cases hj : j < F'.length
  · rw [if_pos (by simp; omega), getElem!_pos _ _ (by simp; omega)]
    simp [List.getElem_append_left, hj]
  · rw [if_neg (by simp; omega)]
    simp only [List.getElem_toArray]
    rw [List.getElem_append_right (by omega), List.getElem_append_right (by omega)]
    congr 1; omega
theorem Hv.grow {R w0 l0 l w} (h : Hv R w0 l0 l w) (os : Array Obj) : Hv R w0 l0 l (Sort.grow w os) := by
  have hlt : ∀ {b}, b < w.heap.size → (w.heap ++ os)[b]? = w.heap[b]? := fun hb => Array.getElem?_append_left hb
  exact { nd := h.nd, own := fun b o hb => (hlt (h.toRv.lt (mem_keys hb))).trans (h.own b o hb), rd := fun b o hb => (hlt (lt_of_get (h.rd b o hb))).trans (h.rd b o hb), dis := h.dis, new := h.new,
          ext := fun b hb hn => (hlt (Nat.lt_of_lt_of_le hb h.size)).trans (h.ext b hb hn), size := by show _ ≤ (w.heap ++ os).size; rw [Array.size_append]; have := h.size; omega, os := h.os, tape := h.tape, output := h.output }
theorem fa2_flat {M : Rd} {css : List (List Value)} {ts : List Tok} (h : Fa2 (Flat tokC M) css ts) : css = ts.map tokC := by
  induction h with
  | nil => rfl
  | cons h1 h2 ih => rw [List.map_cons, ← ih, h1]
theorem tSort {R v ts bk} (hO : OTok v ts bk) (hn : ts.length ≤ 1000000) : Tri Try.prog 111 [v, .func (.func 80) #[] #[]] R bk fun u l' => u = .tuple #[] ∧ OTok v (ts.mergeSort tle) l' := by
  intro w hv
  have hO' := hO
  obtain ⟨css, h1, h2⟩ := hO
  obtain rfl := fa2_flat h2
  by_cases hz : ts = []
  · subst hz
    obtain ⟨p, cap, rfl⟩ := hO'.val kTok
    have := AnyF.slices_SortFunc_none Try.sort111 p cap (.func (.func 80) #[] #[]) w
    refine Calls.mono this ?_
    rintro e w' ⟨rfl, rfl⟩
    exact ⟨_, bk, rfl, ⟨rfl, by rw [List.mergeSort_nil]; exact hO'⟩, hv.start⟩
  · generalize hF : (ts.map tokC).flatten = F at h1
    have hl : ∀ c ∈ ts.map tokC, c.length = 8 := fun c hc => by obtain ⟨t, _, rfl⟩ := List.mem_map.1 hc; exact tokC_len t
    have hfl : F.length = ts.length * 8 := by rw [← hF, flat_len hl, List.length_map]
    cases h1 with
    | nil => exact absurd (List.eq_nil_of_length_eq_zero (by simp at hfl; omega)) hz
    | @blk b _ sp cap n k1 k2 k3 =>
      obtain rfl : n = ts.length := by omega
      have hown : w.heap[b]? = some (.cells (F ++ sp).toArray 65 (0, 0)) := hv.own _ _ (List.mem_cons_self ..)
      have hH : HoldsK tokC 8 w b 0 ts.toArray := by
        intro j hj
        rw [size_flatK, List.size_toArray] at hj
        rw [flatK_eq, hF]
        constructor
        · rw [Nat.zero_add, cell_of hown (v := F[j]'(by omega)) (by rw [List.getElem?_append_left (by omega), List.getElem?_eq_getElem])]
          rw [getElem!_pos _ _ (by simp only [List.size_toArray]; omega), List.getElem_toArray]; rfl
        · simp [World.frozen?, hown]
      have hmain := AnyQ.slices_SortFunc_total Try.sort111 8 Try.isAgg65 Try.sizeOf65 tokC tokC_len (fun x v hv => by
        have := List.all_eq_true.1 (tokC_one x) v hv
        exact one_oneCell' this) tcf swo_tcf 80 #[] b 0 cap ts.toArray w (enters_of Try.func80 (by kernel_rfl) rfl) (fun m os dk hd x y => tCmp x y _) hH (lt_of_get hown) (by simp; omega) (fun x y hx hy => by
          rw [lt_tcf] at hx hy
          by_cases e : x = y
          · exact e
          · have := sLt_tri hx (fun e' => e (Subtype.ext e')); rw [show sLt y.1 x.1 = tlt y x from rfl, hy] at this; cases this)
      refine Calls.mono hmain ?_
      rintro e w' ⟨rfl, m, os, rfl⟩
      rw [lt_tcf]
      show ∃ v l', _
      have hp : (ts.mergeSort tle).Perm ts := List.mergeSort_perm ts tle
      have hl' : ∀ c ∈ (ts.mergeSort tle).map tokC, c.length = 8 := fun c hc => by obtain ⟨t, _, rfl⟩ := List.mem_map.1 hc; exact tokC_len t
      have hfl' : ((ts.mergeSort tle).map tokC).flatten.length = ts.length * 8 := by rw [flat_len hl', List.length_map, hp.length_eq]
      have hput : Hv R w [(b, .cells (F ++ sp).toArray 65 (0, 0))] [(b, .cells (((ts.mergeSort tle).map tokC).flatten ++ sp).toArray 65 (0, 0))] (putRowK tokC 8 (Sort.ahead w m) b 0 (ts.mergeSort tle).toArray) := by
        refine Hv.put (A := []) (B := []) (b := b) hv.start _ ?_ ?_ ?_ rfl rfl rfl
        · show ((Sort.ahead w m).heap.modify b _)[b]? = _
          rw [Array.getElem?_modify, if_pos rfl]
          show (w.heap[b]?).map _ = _
          rw [hown, flatK_eq]
          show some (Obj.cells (putCells id 0 _ _) _ _) = _
          rw [putCells_eq _ _ _ (by omega)]
        · intro b' hb'
          show ((Sort.ahead w m).heap.modify b _)[b']? = _
          rw [Array.getElem?_modify, if_neg (Ne.symm hb')]; rfl
        · show ((Sort.ahead w m).heap.modify b _).size = _
          rw [Array.size_modify]; rfl
      refine ⟨_, _, rfl, ⟨rfl, ?_⟩, Hv.grow hput os⟩
      refine ⟨_, .blk (by rw [hfl']) (by rw [List.length_append, hfl', ← k1, ← List.length_append]; exact k2) k3, Fa2.map _ fun _ => rfl⟩
/-- slices.SortedFunc of a map's keys. -/
theorem tSorted {R k m ck} {kv : Kv Tok} (hb : R k (.cells (List.toArray [.map (some m)]) 120 (0, 0))) (hm : R m (.map (ents tokV kv) ck)) (hk : KvOk kv ck) (hn : kv.length ≤ 1000000) :
    Tri Try.prog 78 [.func (.func 112) #[] (List.toArray [.pointer (some ⟨k, 0, none⟩)]), .func (.func 80) #[] #[]] R [] fun v l' => ∃ ts : List Tok, ts.Perm (kv.map (·.1)) ∧ OTok v (ts.mergeSort tle) l' := by
  refine enter Try.func78 rfl rfl (by kernel_rfl) rfl fun w0 => ?_
  refine seq ?_
  refine reg ?_
  refine q (asg rfl) ?_
  refine en ?_
  refine seq ?_
  refine reg ?_
  refine q (mv rfl) ?_
  refine cl0 fb110 rfl (tCollect (.inl hb) (.inl hm) hk hn) ?_
  rintro v nw ⟨ts, hp, hO⟩
  have hts : ts.length ≤ 1000000 := by rw [hp.length_eq, List.length_map]; exact hn
  refine q (asg rfl) ?_
  refine en ?_
  refine seq ?_
  refine reg ?_
  refine q (mv rfl) ?_
  refine q (mv rfl) ?_
  refine cl (l := nw ++ []) fb111 rfl (by rw [List.append_nil]; exact tSort hO hts) ?_
  rintro u l' ⟨rfl, hO2⟩
  refine en ?_
  refine seq ?_
  refine reg ?_
  refine q (mv rfl) ?_
  refine q (asg rfl) ?_
  refine en ?_
  refine ret ?_
  exact finQ l' rfl rfl (fun a => Nat.le_refl _) ⟨ts, hp, hO2⟩
end Go.Proofs.Ytoecfgldnlglnaa

