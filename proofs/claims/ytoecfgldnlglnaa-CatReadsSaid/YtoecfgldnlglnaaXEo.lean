import Derived.Test.YtoecfgldnlglnaaXEf
import Derived.Test.YtoecfgldnlglnaaGO
set_option linter.unusedVariables false
set_option linter.unusedSimpArgs false
set_option maxRecDepth 20000
/-! # The arguments, opened -/
namespace Go.Proofs.Ytoecfgldnlglnaa
open Go Go.Wk Go.ChangeShapes Go.WideShapes
section
variable {H : Type} {enc : TypeId × Value → H} {W : World} {held : Bool} {fuel : Nat} {cs : List Value} {x : DataW H × List MemPlace}
theorem co3 : Try.prog.cellsOf 3 = 1 := by kernel_rfl
theorem co5 : Try.prog.cellsOf 5 = 1 := by kernel_rfl
theorem co65 : Try.prog.cellsOf 65 = 8 := by kernel_rfl
theorem co67 : Try.prog.cellsOf 67 = 4 := by kernel_rfl
theorem co69 : Try.prog.cellsOf 69 = 15 := by kernel_rfl
theorem u16wf {n : Int} (h : (Lit.int .u16 n).wf = true) : 0 ≤ n ∧ n ≤ 65535 := by
  have h1 : IntKind.u16.min = 0 := rfl
  have h2 : IntKind.u16.max = 65535 := rfl
  simp only [Lit.wf, h1, h2, decide_eq_true_eq, Bool.and_eq_true] at h
  exact h
theorem u8wf {n : Int} (h : (Lit.int .u8 n).wf = true) : ∃ u : UInt8, Value.int .u8 n = u8V u := by
  have h1 : IntKind.u8.min = 0 := rfl
  have h2 : IntKind.u8.max = 255 := rfl
  simp only [Lit.wf, h1, h2, decide_eq_true_eq, Bool.and_eq_true] at h
  refine ⟨UInt8.ofNat n.toNat, ?_⟩
  have : (UInt8.ofNat n.toNat).toNat = n.toNat := Num.u8_ofNat (by omega)
  unfold u8V
  rw [this]; congr 1; omega
theorem openU8 (h : DataW.trod enc Try.prog W 0 (fun _ => true) held fuel 5 cs = some x) : ∃ u : UInt8, cs = [u8V u] := by
  obtain ⟨n, rfl, _, hw⟩ := DataW.trod_int Try.underlying5 h
  obtain ⟨u, hu⟩ := u8wf hw
  exact ⟨u, by rw [hu]⟩
theorem bytes_of : ∀ (n : Nat) (cs : List Value), cs.length = n → (∀ i, i < n → ∃ u : UInt8, (cs.drop i).take 1 = [u8V u]) → ∃ l : List UInt8, l.length = n ∧ cs = u8s l
  | 0, cs, h, _ => ⟨[], rfl, List.eq_nil_of_length_eq_zero h⟩
  | n + 1, [], h, _ => by simp at h
  | n + 1, c :: cs, h, hi => by
    obtain ⟨u, hu⟩ := hi 0 (by omega)
    obtain ⟨l, hl, hc⟩ := bytes_of n cs (by simpa using h) fun i hn => by
      have := hi (i + 1) (by omega)
      simpa using this
    refine ⟨u :: l, by simp [hl], ?_⟩
    have : c = u8V u := by simpa using hu
    rw [hc, this]; rfl
theorem openTok (h : DataW.trod enc Try.prog W 0 (fun _ => true) held fuel 65 cs = some x) : ∃ t : Tok, cs = tokC t := by
  obtain ⟨xs, m, _, _, hl, hxs, hf⟩ := DataW.trod_array Try.underlying65 h
  rw [co65] at hl
  obtain ⟨l, hll, rfl⟩ := bytes_of 8 cs hl fun i hi => by
    have h1 := hf i hi
    rw [co5, Nat.mul_one, List.getElem?_eq_getElem (by omega)] at h1
    exact openU8 h1
  exact ⟨⟨⟨l.toArray⟩, by simp [ByteArray.size, hll]⟩, rfl⟩
theorem openQuo (h : DataW.trod enc Try.prog W 0 (fun _ => true) held fuel 67 cs = some x) : ∃ q : Quo, cs = quoC q := by
  obtain ⟨xs, n, _, _, hl, hxs, hf⟩ := DataW.trod_struct Try.underlying67 h
  rw [co67] at hl
  match cs, hl with
  | [c0, c1, c2, c3], _ =>
    have y (i : Nat) (hi : i < 4) : ∃ y, xs[i]? = some y := ⟨_, List.getElem?_eq_getElem (by rw [hxs]; exact hi)⟩
    obtain ⟨y0, h0⟩ := y 0 (by decide)
    obtain ⟨y1, h1⟩ := y 1 (by decide)
    obtain ⟨y2, h2⟩ := y 2 (by decide)
    obtain ⟨y3, h3⟩ := y 3 (by decide)
    have f0 := hf 0 _ rfl
    have f1 := hf 1 _ rfl
    have f2 := hf 2 _ rfl
    have f3 := hf 3 _ rfl
    simp [co3, h0, h1, h2, h3] at f0 f1 f2 f3
    obtain ⟨n0, e0, _⟩ := DataW.trod_int Try.underlying3 f0
    obtain ⟨n1, e1, _⟩ := DataW.trod_int Try.underlying3 f1
    obtain ⟨n2, e2, _⟩ := DataW.trod_int Try.underlying3 f2
    obtain ⟨n3, e3, _⟩ := DataW.trod_int Try.underlying3 f3
    simp at e0 e1 e2 e3
    subst e0 e1 e2 e3
    exact ⟨⟨n0, n1, n2, n3⟩, rfl⟩
theorem openAct (h : DataW.trod enc Try.prog W 0 (fun _ => true) held fuel 69 cs = some x) : ∃ a : AC, cs = actC a := by
  obtain ⟨xs, n, _, _, hl, hxs, hf⟩ := DataW.trod_struct Try.underlying69 h
  rw [co69] at hl
  match cs, hl with
  | [c0, c1, c2, c3, c4, c5, c6, c7, c8, c9, c10, c11, c12, c13, c14], _ =>
    have y (i : Nat) (hi : i < 5) : ∃ y, xs[i]? = some y := ⟨_, List.getElem?_eq_getElem (by rw [hxs]; exact hi)⟩
    obtain ⟨y0, h0⟩ := y 0 (by decide)
    obtain ⟨y1, h1⟩ := y 1 (by decide)
    obtain ⟨y2, h2⟩ := y 2 (by decide)
    obtain ⟨y3, h3⟩ := y 3 (by decide)
    obtain ⟨y4, h4⟩ := y 4 (by decide)
    have f0 := hf 0 _ rfl
    have f1 := hf 1 _ rfl
    have f2 := hf 2 _ rfl
    have f3 := hf 3 _ rfl
    have f4 := hf 4 _ rfl
    simp [co5, co65, co67, h0, h1, h2, h3, h4] at f0 f1 f2 f3 f4
    obtain ⟨k, e0⟩ := openU8 f0
    obtain ⟨s, e1⟩ := openU8 f1
    obtain ⟨r, e2⟩ := openU8 f2
    obtain ⟨t, e3⟩ := openTok f3
    obtain ⟨q, e4⟩ := openQuo f4
    simp at e0 e1 e2
    subst e0 e1 e2
    refine ⟨⟨k, s, r, t, q⟩, ?_⟩
    unfold actC
    rw [← e3, ← e4]; rfl
theorem openActs (h : DataW.trod enc Try.prog W 0 (fun _ => true) held fuel 58 cs = some x) : ∃ v l, cs = [v] ∧ RSl 15 (Flat actC) (Rw W) v l ∧ True := by
  obtain ⟨v, css, n, rfl, hv, hl, ht⟩ := openV Try.underlying58 co69 (by decide) h
  have : ∃ l : List AC, Fa2 (Flat actC (Rw W)) css l := by
    clear hv hl
    induction css with
    | nil => exact ⟨[], .nil⟩
    | cons c css ih =>
      obtain ⟨l, h1⟩ := ih fun c hc => ht c (List.mem_cons_of_mem _ hc)
      obtain ⟨y, hy⟩ := ht c (List.mem_cons_self ..)
      obtain ⟨a, ha⟩ := openAct hy
      exact ⟨a :: l, .cons ha h1⟩
  obtain ⟨l, hf⟩ := this
  exact ⟨v, l, rfl, ⟨css, hv, hf⟩, trivial⟩
theorem strBs (a : ByteArray) : (.string a : Value) = bs a.data.toList := by congr 1
end
end Go.Proofs.Ytoecfgldnlglnaa

