import Derived.Test.YtoecfgldnlglnaaG4
set_option linter.unusedVariables false
set_option linter.unusedSimpArgs false
set_option linter.unusedSectionVars false
set_option maxRecDepth 20000
namespace Go.Wk
open Go
/-! # Bits, bytes -/
def andK (k : IntKind) (n m : Int) : Int := k.wrap ((BitVec.ofInt k.bits n &&& BitVec.ofInt k.bits m).toNat)
def orK (k : IntKind) (n m : Int) : Int := k.wrap ((BitVec.ofInt k.bits n ||| BitVec.ofInt k.bits m).toNat)
theorem ofInt_nat {w n : Nat} (h : n < 2 ^ w) : (BitVec.ofInt w (n : Int)).toNat = n := by
  simp [BitVec.toNat_ofInt]
  have : ((n : Int) % (2 ^ w : Int)).toNat = n := by
    have h2 : (n : Int) < (2 ^ w : Int) := by exact_mod_cast h
    rw [Int.emod_eq_of_lt (by omega) h2]; simp
  exact_mod_cast this
theorem u64_wrap {n : Nat} (h : n < 18446744073709551616) : IntKind.u64.wrap (n : Int) = n := by
  simp [IntKind.wrap, IntKind.bits, IntKind.signed]; omega
theorem u8_wrap {n : Nat} (h : n < 256) : IntKind.u8.wrap (n : Int) = n := by
  simp [IntKind.wrap, IntKind.bits, IntKind.signed]; omega
theorem and_u64 {n : Nat} (j : Nat) (h : n < 18446744073709551616) (hj : 2 ^ j ≤ 18446744073709551616) : andK .u64 (n : Int) ((2 ^ j - 1 : Nat) : Int) = (n % 2 ^ j : Nat) := by
  unfold andK
  have h1 : n < 2 ^ IntKind.u64.bits := h
  have h2 : 2 ^ j - 1 < 2 ^ IntKind.u64.bits := by have : 0 < 2 ^ j := Nat.two_pow_pos j; show 2 ^ j - 1 < 18446744073709551616; omega
  rw [BitVec.toNat_and, ofInt_nat h1, ofInt_nat h2, Nat.and_two_pow_sub_one_eq_mod, u64_wrap]
  exact Nat.lt_of_le_of_lt (Nat.mod_le _ _) h
theorem and_u8 {n : Nat} (j : Nat) (h : n < 256) (hj : 2 ^ j ≤ 256) : andK .u8 (n : Int) ((2 ^ j - 1 : Nat) : Int) = (n % 2 ^ j : Nat) := by
  unfold andK
  have h1 : n < 2 ^ IntKind.u8.bits := h
  have h2 : 2 ^ j - 1 < 2 ^ IntKind.u8.bits := by have : 0 < 2 ^ j := Nat.two_pow_pos j; show 2 ^ j - 1 < 256; omega
  rw [BitVec.toNat_and, ofInt_nat h1, ofInt_nat h2, Nat.and_two_pow_sub_one_eq_mod, u8_wrap]
  exact Nat.lt_of_le_of_lt (Nat.mod_le _ _) h
theorem or_low {a b j : Nat} (hb : b < 2 ^ j) : (a * 2 ^ j) ||| b = a * 2 ^ j + b := by
  rw [Nat.mul_comm, ← Nat.two_pow_add_eq_or_of_lt hb]
theorem or_u64 {a b : Nat} (j : Nat) (hb : b < 2 ^ j) (h : a * 2 ^ j + b < 18446744073709551616) : orK .u64 ((a * 2 ^ j : Nat) : Int) (b : Int) = (a * 2 ^ j + b : Nat) := by
  unfold orK
  have h1 : a * 2 ^ j < 2 ^ IntKind.u64.bits := by show _ < 18446744073709551616; omega
  have h2 : b < 2 ^ IntKind.u64.bits := by show _ < 18446744073709551616; omega
  rw [BitVec.toNat_or, ofInt_nat h1, ofInt_nat h2, or_low hb, u64_wrap h]
theorem or_u8' {a b : Nat} (j : Nat) (hb : b < 2 ^ j) (h : a * 2 ^ j + b < 256) : orK .u8 (b : Int) ((a * 2 ^ j : Nat) : Int) = (a * 2 ^ j + b : Nat) := by
  unfold orK
  have h1 : a * 2 ^ j < 2 ^ IntKind.u8.bits := by show _ < 256; omega
  have h2 : b < 2 ^ IntKind.u8.bits := by show _ < 256; omega
  rw [BitVec.toNat_or, ofInt_nat h1, ofInt_nat h2, Nat.or_comm, or_low hb, u8_wrap h]
section
variable {c : Cx} {e : Env} {l : Bl} {d : Option Tmp} {ty : TypeId} {pos : String} {aft : Array Edge} {g : Option (Nat × Bool)} {x y : Operand} {T T' : TypeId} {k k' : IntKind} {n m : Int}
theorem bAnd (hx : ev e x = some (.int k n)) (hy : ev e y = some (.int k m)) : Sp c l ⟨d, .binOp .and T x y T', ty, pos, aft, g⟩ e (.int k (andK k n m)) := fun w hv a ha => by
  simp [execOp, ha.eval hx, ha.eval hy, eqGuard, binOp, Op.intBits, andK, pure, bind, Sem.bind, Sem.run]
theorem bOr (hx : ev e x = some (.int k n)) (hy : ev e y = some (.int k m)) : Sp c l ⟨d, .binOp .or T x y T', ty, pos, aft, g⟩ e (.int k (orK k n m)) := fun w hv a ha => by
  simp [execOp, ha.eval hx, ha.eval hy, eqGuard, binOp, Op.intBits, orK, pure, bind, Sem.bind, Sem.run]
theorem bShr (hx : ev e x = some (.int k n)) (hy : ev e y = some (.int k' m)) (h0 : 0 ≤ m) : Sp c l ⟨d, .binOp .shr T x y T', ty, pos, aft, g⟩ e (.int k (n.fdiv (2 ^ min m.toNat k.bits))) := fun w hv a ha => by
  simp [execOp, ha.eval hx, ha.eval hy, eqGuard, binOp, Op.shift, show ¬ m < 0 by omega, pure, bind, Sem.bind, Sem.run]
theorem bShl (hx : ev e x = some (.int k n)) (hy : ev e y = some (.int k' m)) (h0 : 0 ≤ m) : Sp c l ⟨d, .binOp .shl T x y T', ty, pos, aft, g⟩ e (.int k (k.wrap (n * 2 ^ min m.toNat k.bits))) := fun w hv a ha => by
  simp [execOp, ha.eval hx, ha.eval hy, eqGuard, binOp, Op.shift, show ¬ m < 0 by omega, pure, bind, Sem.bind, Sem.run]
/-- A part of an array. -/
theorem slA {E : TypeId} {sz len b o L H : Nat} {lo hi : Option Operand} (hT : c.P.underlying T = some (.array len E)) (hs : Sz c.P E sz) (hx : ev e x = some (.pointer (some ⟨b, o, none⟩)))
    (hlo : Bn e lo L 0) (hhi : Bn e hi H len) (h1 : L ≤ H) (h2 : H ≤ len) (h3 : L < len) : Sp c l ⟨d, .slice T x lo hi none, ty, pos, aft, g⟩ e (.slice (some ⟨b, o + L * sz, none⟩) (H - L) (len - L)) := fun w hv a ha => by
  have hb := run_bounds (P := c.P) (w := w) (b := false) (n := len) (cap := len) (M := len) (mx := none) ha hlo hhi rfl (by simp) h1 h2 (Nat.le_refl _)
  simp only [Option.map_none] at hb
  unfold execOp
  simp only [ha.eval hx, Instr.sliceAt, Instr.sureAddr, underlying, program, Sem.run_bind, Sem.run, hT, Result.andThen_ok, pure, Option.map_none, hb, hs w]
  rw [if_neg (by omega), add_none]
end
end Go.Wk
namespace Go.Wk
open Go
theorem foldl_push_u8 : ∀ (bs : List UInt8) (s : ByteArray), (bs.map fun b => (b.toNat : Int)).foldl (fun r n => r.push (UInt8.ofNat n.toNat)) s = ⟨s.data ++ bs.toArray⟩
  | [], s => by simp
  | b :: bs, s => by
    rw [List.map_cons, List.foldl_cons, foldl_push_u8 bs]
    apply ByteArray.ext
    apply Array.ext'
    simp [ByteArray.data_push]
/-- Bytes as a text's cells. -/
abbrev u8s (bs : List UInt8) : List Value := bs.map fun b => .int .u8 b.toNat
section
variable {c : Cx} {e : Env} {l : Bl} {d : Option Tmp} {ty : TypeId} {pos : String} {aft : Array Edge} {g : Option (Nat × Bool)} {x y : Operand} {T T' E : TypeId}
/-- 'string(bytes)'. -/
theorem cvBS {bs : List UInt8} {v : Value} {M : Rd} (hT : c.P.underlying T = some (.slice E)) (hE : c.P.underlying E = some (.int .u8)) (hT' : c.P.underlying T' = some .string) (hx : ev e x = some v) (h : SlV 1 M v (u8s bs)) (hM : ∀ b o, M b o → Has c.R l b o) :
    Sp c l ⟨d, .convert T T' x, ty, pos, aft, g⟩ e (.string ⟨bs.toArray⟩) := fun w hv a ha => by
  obtain ⟨p, n, cap, rfl, hl, hc⟩ := h
  simp only [List.length_map, Nat.mul_one] at hl
  unfold execOp
  simp only [ha.eval hx, Sem.run_bind, run_convert_bytes_string w T T' E p n cap hT hE hT']
  by_cases hz : bs = []
  · subst hz
    obtain rfl : n = 0 := by simpa using hl.symm
    cases p with
    | none => simp [Conv.bytesToString, pure, Sem.run]; rfl
    | some a =>
      have := run_bytesToString (P := c.P) w a 0 cap [] (by simp [loadCells, loadCellsFrom, pure, Sem.run])
      simp only [this, Result.andThen_ok, pure, Sem.run]; rfl
  · have hpos := List.length_pos_iff.2 hz
    rcases hc with rfl | ⟨b, o, cs, E', fz, rfl, hR, hj⟩
    · omega
    have hget := hv.get (hM _ _ hR)
    subst hl
    have hlen : o + bs.length ≤ cs.length := by
      have h1 := hj (bs.length - 1) (by omega)
      rw [List.getElem?_eq_getElem (l := u8s bs) (by simp; omega)] at h1
      have := (List.getElem?_eq_some_iff.1 h1).1
      omega
    have h1 := loadFrom (P := c.P) hget bs.length o 0 #[] (by omega)
    have h2 : (cs.drop (o + 0)).take bs.length = u8s bs := by
      apply List.ext_getElem?
      intro j
      by_cases hjl : j < bs.length
      · rw [List.getElem?_take_of_lt hjl, List.getElem?_drop, Nat.add_zero, hj j (by omega)]
      · rw [List.getElem?_eq_none (by rw [List.length_take]; omega), List.getElem?_eq_none (by simp; omega)]
    rw [h2] at h1
    have h3 : (loadCells ⟨b, o, none⟩ bs.length).run c.P w = .ok ((bs.map fun b => (b.toNat : Int)).map (Value.int .u8)).toArray w := by
      unfold loadCells
      rw [h1]
      simp [List.map_map, Function.comp_def]
    have h4 := run_bytesToString (P := c.P) w ⟨b, o, none⟩ bs.length cap _ h3
    rw [foldl_push_u8] at h4
    simp only [h4, Result.andThen_ok, pure, Sem.run]
    congr 3
    apply ByteArray.ext
    apply Array.ext'
    simp [ByteArray.empty, ByteArray.emptyWithCapacity]
    rfl
end
end Go.Wk

namespace Go.Wk
open Go
/-! ## Natural numbers -/
section
variable {c : Cx} {e : Env} {l : Bl} {d : Option Tmp} {ty : TypeId} {pos : String} {aft : Array Edge} {g : Option (Nat × Bool)} {x y : Operand} {T T' : TypeId} {k k' : IntKind} {D : TypeDesc}
theorem tmod_nat (n j : Nat) : ((n : Int).tmod (j : Int)) = ((n % j : Nat) : Int) := rfl
theorem tdiv_nat (n j : Nat) : ((n : Int).tdiv (j : Int)) = ((n / j : Nat) : Int) := rfl
theorem remN (n j : Nat) (hx : ev e x = some (.int k (n : Nat))) (hy : ev e y = some (.int k (j : Nat))) (h : j ≠ 0) : Sp c l ⟨d, .binOp .rem T x y T', ty, pos, aft, g⟩ e (.int k ((n % j : Nat) : Int)) :=
  (bRem hx hy (by omega)).to (by rw [tmod_nat])
theorem quoN (n j : Nat) (hx : ev e x = some (.int k (n : Nat))) (hy : ev e y = some (.int k (j : Nat))) (h : j ≠ 0) (hw : k.wrap ((n / j : Nat) : Int) = (n / j : Nat)) : Sp c l ⟨d, .binOp .quo T x y T', ty, pos, aft, g⟩ e (.int k ((n / j : Nat) : Int)) :=
  (bQuo hx hy (by omega)).to (by rw [tdiv_nat, hw])
theorem addN (n j m : Nat) (hx : ev e x = some (.int k (n : Nat))) (hy : ev e y = some (.int k (j : Nat))) (hw : k.wrap ((n + j : Nat) : Int) = (m : Nat)) : Sp c l ⟨d, .binOp .add T x y T', ty, pos, aft, g⟩ e (.int k (m : Nat)) :=
  (bAdd hx hy).to (by rw [← hw]; simp)
theorem mulN (n j m : Nat) (hx : ev e x = some (.int k (n : Nat))) (hy : ev e y = some (.int k (j : Nat))) (hw : k.wrap ((n * j : Nat) : Int) = (m : Nat)) : Sp c l ⟨d, .binOp .mul T x y T', ty, pos, aft, g⟩ e (.int k (m : Nat)) :=
  (bMul hx hy).to (by rw [← hw]; simp)
theorem cvN (n m : Nat) (hT : c.P.underlying T = some D) (hT' : c.P.underlying T' = some (.int k')) (hx : ev e x = some (.int k (n : Nat))) (hw : k'.wrap (n : Int) = (m : Nat)) : Sp c l ⟨d, .convert T T' x, ty, pos, aft, g⟩ e (.int k' (m : Nat)) :=
  (cvI hT hT' hx).to (by rw [hw])
theorem u64_mod (n : Nat) : IntKind.u64.wrap (n : Int) = (n % 18446744073709551616 : Nat) := by simp [IntKind.wrap, IntKind.bits, IntKind.signed]
theorem u8_mod (n : Nat) : IntKind.u8.wrap (n : Int) = (n % 256 : Nat) := by simp [IntKind.wrap, IntKind.bits, IntKind.signed]
theorem andN (n j m : Nat) (hx : ev e x = some (.int k (n : Nat))) (hy : ev e y = some (.int k (j : Nat))) (hw : andK k n j = (m : Nat)) : Sp c l ⟨d, .binOp .and T x y T', ty, pos, aft, g⟩ e (.int k (m : Nat)) :=
  (bAnd hx hy).to (by rw [hw])
theorem orN (n j m : Nat) (hx : ev e x = some (.int k (n : Nat))) (hy : ev e y = some (.int k (j : Nat))) (hw : orK k n j = (m : Nat)) : Sp c l ⟨d, .binOp .or T x y T', ty, pos, aft, g⟩ e (.int k (m : Nat)) :=
  (bOr hx hy).to (by rw [hw])
theorem shrN (n j : Nat) (hx : ev e x = some (.int k (n : Nat))) (hy : ev e y = some (.int k' (j : Nat))) (hj : j ≤ k.bits) : Sp c l ⟨d, .binOp .shr T x y T', ty, pos, aft, g⟩ e (.int k ((n / 2 ^ j : Nat) : Int)) :=
  (bShr hx hy (by omega)).to (by
    have h1 : (n : Int).fdiv (2 ^ min (j : Int).toNat k.bits) = ((n / 2 ^ j : Nat) : Int) := by
      rw [Int.toNat_natCast, Nat.min_eq_left hj, Int.fdiv_eq_ediv_of_nonneg _ (by exact_mod_cast Nat.zero_le (2 ^ j))]; simp
    rw [h1])
theorem shlN (n j m : Nat) (hx : ev e x = some (.int k (n : Nat))) (hy : ev e y = some (.int k' (j : Nat))) (hj : j ≤ k.bits) (hw : k.wrap ((n * 2 ^ j : Nat) : Int) = (m : Nat)) : Sp c l ⟨d, .binOp .shl T x y T', ty, pos, aft, g⟩ e (.int k (m : Nat)) :=
  (bShl hx hy (by omega)).to (by rw [← hw, Int.toNat_natCast, Nat.min_eq_left hj]; simp)
end
/-- Bytes as texts. -/
abbrev bs (l : List UInt8) : Value := .string ⟨l.toArray⟩
theorem bs_app (a b : List UInt8) : (⟨a.toArray⟩ ++ ⟨b.toArray⟩ : ByteArray) = ⟨(a ++ b).toArray⟩ := by
  apply ByteArray.ext; simp [ByteArray.data_append]
theorem bs_size (a : List UInt8) : (⟨a.toArray⟩ : ByteArray).size = a.length := by simp [ByteArray.size]
theorem bs_inj {a b : List UInt8} : (⟨a.toArray⟩ : ByteArray) = ⟨b.toArray⟩ ↔ a = b := by
  constructor
  · intro h
    have := congrArg (fun s : ByteArray => s.data.toList) h
    simpa using this
  · rintro rfl; rfl
theorem bs_extract (a : List UInt8) (i j : Nat) : (⟨a.toArray⟩ : ByteArray).extract i j = ⟨((a.drop i).take (j - i)).toArray⟩ := by
  apply ByteArray.ext
  rw [ByteArray.data_extract]
  apply Array.ext'
  simp [List.extract_eq_take_drop]
theorem u8_val {n : Nat} (h : n < 256) : (.int .u8 (n : Int) : Value) = .int .u8 ((UInt8.ofNat n).toNat : Int) := by
  have : (UInt8.ofNat n).toNat = n := by simp; omega
  rw [this]
theorem z1u8 : ((Array.range (1 * 1)).map ((Value.int .u8 0).cells[· % (Value.int .u8 0).cells.size]!)) = List.toArray [.int .u8 0] := by
  apply Array.ext' <;> simp [Array.range, Value.cells]
theorem z2u8 : ((Array.range (2 * 1)).map ((Value.int .u8 0).cells[· % (Value.int .u8 0).cells.size]!)) = List.toArray [.int .u8 0, .int .u8 0] := by
  apply Array.ext' <;> simp [Array.range, Value.cells]
section
variable {c : Cx} {e : Env} {l : Bl} {ty : TypeId} {pos : String} {aft : Array Edge} {x y : Operand} {T T' E : TypeId} {ops : Array Oper} {Q : Ps} {rest : List Oper}
theorem slB {b E n : Nat} {cs : List UInt8} (h : cs.length = n) : SlV 1 (fun b' o => Has (fun _ _ => False) [(b, Obj.cells (u8s cs).toArray E (0, 0))] b' o) (.slice (some ⟨b, 0, none⟩) n n) (u8s cs) :=
  ⟨_, n, n, rfl, by simp [h], .inr ⟨b, 0, _, _, _, rfl, m0, fun j hj => by simp⟩⟩
/-- 'string([]byte{a})', at two operations. -/
theorem bc1 {d1 d2 n : Nat} {pos2 : String} {aft2 : Array Edge} {ty2 : TypeId} (hT : c.P.underlying T = some (.slice E)) (hE : c.P.underlying E = some (.int .u8)) (hi : Inf c.P E (.int .u8 0) 1 1) (hT' : c.P.underlying T' = some .string)
    (hx : ev e x = some (.int .u8 (n : Nat))) (hn : n < 256) (hk : ∀ b u, Wo c ops Q rest ((d2, bs [UInt8.ofNat n]) :: (d1, u) :: e) ((b, .cells (u8s [UInt8.ofNat n]).toArray E (0, 0)) :: l)) :
    Wo c ops Q (⟨some d1, .buildSlice T 1 #[(0, x)], ty, pos, aft, none⟩ :: ⟨some d2, .convert T T' (.tmp d1), ty2, pos2, aft2, none⟩ :: rest) e l := by
  refine eo (eBs (sz := 1) (z0 := [.int .u8 0]) (r := [.int .u8 (n : Nat)]) hT hi.sz ⟨_, hi.zr, z1u8⟩ ⟨by decide, by decide⟩ (ps := [(0, x)]) (vs := [(0, .int .u8 (n : Nat))]) (by simp [evs, hx]) (.c1 rfl (by decide) rfl .z .n)) ?_
  rintro v l' ⟨b, rfl, rfl⟩
  have e1 : [Value.int .u8 (n : Nat)] = u8s [UInt8.ofNat n] := by rw [u8_val hn]; rfl
  rw [e1]
  exact q (cvBS hT hE hT' (by simp [putE, ev, gt_cons]) (slB (E := E) rfl) (fun b' o h => h.elim (fun h => h.elim) fun h => .inr (List.mem_cons.2 (.inl (List.mem_singleton.1 h))))) (hk b _)
/-- 'string([]byte{a, b})', at two operations. -/
theorem bc2 {d1 d2 n m : Nat} {pos2 : String} {aft2 : Array Edge} {ty2 : TypeId} (hT : c.P.underlying T = some (.slice E)) (hE : c.P.underlying E = some (.int .u8)) (hi : Inf c.P E (.int .u8 0) 1 1) (hT' : c.P.underlying T' = some .string)
    (hx : ev e x = some (.int .u8 (n : Nat))) (hn : n < 256) (hy : ev e y = some (.int .u8 (m : Nat))) (hm : m < 256) (hk : ∀ b u, Wo c ops Q rest ((d2, bs [UInt8.ofNat n, UInt8.ofNat m]) :: (d1, u) :: e) ((b, .cells (u8s [UInt8.ofNat n, UInt8.ofNat m]).toArray E (0, 0)) :: l)) :
    Wo c ops Q (⟨some d1, .buildSlice T 2 #[(0, x), (1, y)], ty, pos, aft, none⟩ :: ⟨some d2, .convert T T' (.tmp d1), ty2, pos2, aft2, none⟩ :: rest) e l := by
  refine eo (eBs (sz := 1) (z0 := [.int .u8 0, .int .u8 0]) (r := [.int .u8 (n : Nat), .int .u8 (m : Nat)]) hT hi.sz ⟨_, hi.zr, z2u8⟩ ⟨by decide, by decide⟩ (ps := [(0, x), (1, y)]) (vs := [(0, .int .u8 (n : Nat)), (1, .int .u8 (m : Nat))]) (by simp [evs, hx, hy]) (.c1 rfl (by decide) rfl .z (.c1 rfl (by simp) rfl (.s .z) .n))) ?_
  rintro v l' ⟨b, rfl, rfl⟩
  have e1 : [Value.int .u8 (n : Nat), Value.int .u8 (m : Nat)] = u8s [UInt8.ofNat n, UInt8.ofNat m] := by rw [u8_val hn, u8_val hm]; rfl
  rw [e1]
  exact q (cvBS hT hE hT' (by simp [putE, ev, gt_cons]) (slB (E := E) rfl) (fun b' o h => h.elim (fun h => h.elim) fun h => .inr (List.mem_cons.2 (.inl (List.mem_singleton.1 h))))) (hk b _)
end
end Go.Wk
namespace Go.Wk
open Go
section
variable {c : Cx} {ops : Array Oper} {Q : Ps} {rest : List Oper} {e : Env} {l : Bl} {ty : TypeId} {pos : String} {aft : Array Edge}
/-- A call of a function's value, that owns nothing, and hands back what is known. -/
theorem clGv {d : Nat} {fo : Operand} {xs : List Operand} {ts : Array TypeId} {vs ws : List Value} {f : FuncId} {fst cap : Array Value} {u : Value} (hfo : ev e fo = some (.func (.func f) fst cap)) (hx : evl e xs = some vs) (hf : Fb c.P f)
    (hw : fst.toList ++ vs ++ cap.toList = ws) (ht : Tri c.P f ws (fun b o => Has c.R l b o) [] fun v l' => v = u ∧ l' = []) (h : Wo c ops Q rest ((d, u) :: e) l) : Wo c ops Q (⟨some d, .call ⟨.value fo, xs.toArray, ts⟩, ty, pos, aft, none⟩ :: rest) e l :=
  clG hfo hx hf hw ht.ro fun v l' ⟨h1, h2⟩ => by rw [h1, h2]; exact h
end
end Go.Wk
namespace Go.Wk
open Go
section
variable {c : Cx} {e : Env} {l : Bl} {x y : Operand} {T T2 E : TypeId}
/-- 'copy(dst, s)' of a string. -/
theorem eCpS {d : Option Tmp} {b o n cap : Nat} {cs cs' : List Value} {E' : TypeId} {s : List UInt8} {l' : Bl} (hT : c.P.underlying T = some (.slice E)) (hs : Sz c.P E 1) (hx : ev e x = some (.slice (some ⟨b, o, none⟩) n cap)) (hy : ev e y = some (bs s))
    (hi : In l b (.cells cs.toArray E' (0, 0)) (.cells cs'.toArray E' (0, 0)) l') (hu : UpM cs o (u8s (s.take n)) cs') : Ef c l d (.call ⟨.builtin .copy, #[x, y], #[T, T2]⟩) e fun v l'' => v = .int .i64 (min s.length n : Nat) ∧ l'' = l' := fun F w hv a ha ty pos aft g => by
  obtain ⟨A, B, rfl, rfl⟩ := hi.eq
  have hv' : Hv c.R c.w0 c.l0 ((F ++ A) ++ (b, Obj.cells cs.toArray E' (0, 0)) :: B) w := by simpa using hv
  obtain ⟨w', hr, hw⟩ := Hv.run_stores (P := c.P) (u8s (s.take n)) (k := o) (i := 0) hv' hu (all_one_map _ fun _ => rfl)
  refine .inl ⟨_, _, w', ?_, ⟨rfl, rfl⟩, by simpa using hw⟩
  have e1 : ((⟨s.toArray⟩ : ByteArray).extract 0 (Nat.min s.length n)).data.toList = s.take n := by
    rw [bs_extract, List.drop_zero, Nat.sub_zero]
    show s.take (Nat.min s.length n) = _
    rcases Nat.le_total s.length n with h | h
    · rw [show Nat.min s.length n = s.length from Nat.min_eq_left h, List.take_of_length_le (Nat.le_refl _), List.take_of_length_le h]
    · rw [show Nat.min s.length n = n from Nat.min_eq_right h]
  have e2 : (((⟨s.toArray⟩ : ByteArray).extract 0 (Nat.min s.length n)).data.map fun b => Value.int .u8 b.toNat).toList = u8s (s.take n) := by
    rw [Array.toList_map, e1]
  unfold execOp
  simp only [resolve, invoke, builtin, Sem.run_bind, ha.eval hx, ha.eval hy, List.map_toArray, List.map, pure, Sem.run, Result.andThen_ok]
  have h0 : (Builtin.copy_ #[T, T2] ty #[.slice (some ⟨b, o, none⟩) n cap, bs s]).run c.P w = .ok (.int .i64 (min s.length n : Nat)) w' := by
    unfold Builtin.copy_
    simp only [run_underlying hT, Sem.run_bind, Result.andThen_ok, List.getElem?_toArray, List.getElem?_cons_zero, List.getElem?_cons_succ, Builtin.lenOf, Builtin.firstCells, pure, Sem.run, hs w, bs_size, e2, hr]
    rfl
  simp only [h0, Result.andThen_ok]
end
end Go.Wk
namespace Go.Wk.Num
open Go Go.Wk
/-! # Numbers as groups: plain -/
def M64 : Nat := 18446744073709551616
def grpH (n : Nat) : List UInt8 := if h : n = 0 then [] else grpH (n / 128) ++ [UInt8.ofNat (128 + n % 128)]
termination_by n
decreasing_by omega
def oneL (n : Nat) : List UInt8 := grpH (n / 128) ++ [UInt8.ofNat (n % 128)]
def numV (ns : List Nat) : List UInt8 := ns.flatMap oneL
def val (l : List UInt8) : Nat := l.foldl (fun n b => 128 * n + b.toNat % 128) 0
theorem grpH_zero : grpH 0 = [] := by unfold grpH; simp
theorem grpH_pos {n : Nat} (h : 0 < n) : grpH n = grpH (n / 128) ++ [UInt8.ofNat (128 + n % 128)] := by
  conv => lhs; unfold grpH
  rw [dif_neg (by omega)]
theorem u8_ofNat {n : Nat} (h : n < 256) : (UInt8.ofNat n).toNat = n := by simp; omega
theorem grpH_ge (n : Nat) : ∀ b ∈ grpH n, 128 ≤ b.toNat := by
  induction n using Nat.strongRecOn with
  | ind n ih =>
    rcases Nat.eq_zero_or_pos n with rfl | h
    · rw [grpH_zero]; simp
    · rw [grpH_pos h]
      intro b hb
      rcases List.mem_append.1 hb with hb | hb
      · exact ih _ (by omega) b hb
      · rw [List.mem_singleton.1 hb, u8_ofNat (by omega)]; omega
theorem grpH_len {k : Nat} : ∀ {n : Nat}, n < 128 ^ k → (grpH n).length ≤ k := by
  induction k with
  | zero => intro n h; obtain rfl : n = 0 := by simpa using h
            rw [grpH_zero]; simp
  | succ k ih =>
    intro n h
    rcases Nat.eq_zero_or_pos n with rfl | hp
    · rw [grpH_zero]; simp
    · rw [grpH_pos hp]
      have := ih (n := n / 128) (by rw [Nat.pow_succ] at h; exact Nat.div_lt_of_lt_mul (by rwa [Nat.mul_comm]))
      simp; omega
theorem oneL_len {n : Nat} (h : n < M64) : (oneL n).length ≤ 10 ∧ 0 < (oneL n).length := by
  unfold oneL
  have := grpH_len (k := 9) (n := n / 128) (by unfold M64 at h; have : (128 : Nat) ^ 9 = 9223372036854775808 := by decide
                                               omega)
  simp; omega
theorem val_app (l m : List UInt8) : val (l ++ m) = m.foldl (fun n b => 128 * n + b.toNat % 128) (val l) := by unfold val; rw [List.foldl_append]
theorem val_snoc (l : List UInt8) (b : UInt8) : val (l ++ [b]) = 128 * val l + b.toNat % 128 := by rw [val_app]; rfl
theorem fold_le : ∀ (m : List UInt8) (n : Nat), n ≤ m.foldl (fun n b => 128 * n + b.toNat % 128) n
  | [], n => Nat.le_refl _
  | b :: m, n => by
    rw [List.foldl_cons]
    exact Nat.le_trans (by omega) (fold_le m _)
theorem val_le (l m : List UInt8) : val l ≤ val (l ++ m) := by rw [val_app]; exact fold_le m _
theorem val_grpH (n : Nat) : val (grpH n) = n := by
  induction n using Nat.strongRecOn with
  | ind n ih =>
    rcases Nat.eq_zero_or_pos n with rfl | h
    · rw [grpH_zero]; rfl
    · rw [grpH_pos h, val_snoc, ih _ (by omega), u8_ofNat (by omega)]; omega
theorem val_one (n : Nat) : val (oneL n) = n := by
  unfold oneL
  rw [val_snoc, val_grpH, u8_ofNat (by omega)]; omega
theorem oneL_inj {a b : Nat} (h : oneL a = oneL b) : a = b := by rw [← val_one a, h, val_one]
/-- Groups that are whole: all but the last go on, and the first is no nought. -/
theorem grpH_val (l : List UInt8) (hg : ∀ b ∈ l, 128 ≤ b.toNat) (h0 : l.head? ≠ some 128) : grpH (val l) = l ∧ (l ≠ [] → 0 < val l) := by
  induction hn : l.length generalizing l with
  | zero => obtain rfl := List.eq_nil_of_length_eq_zero hn; exact ⟨grpH_zero, fun h => absurd rfl h⟩
  | succ n ih =>
    obtain ⟨l', b, rfl⟩ : ∃ l' b, l = l' ++ [b] := ⟨l.dropLast, l.getLast (by intro h; simp [h] at hn), (List.dropLast_concat_getLast _).symm⟩
    have hb := hg b (by simp)
    have hb' : b.toNat < 256 := b.toNat_lt
    rw [val_snoc]
    have hpos : 0 < 128 * val l' + b.toNat % 128 := by
      by_cases he : l' = []
      · subst he
        have : b ≠ 128 := fun e => h0 (by simp [e])
        have : b.toNat ≠ 128 := fun e => this (UInt8.toNat_inj.1 (by rw [e]; rfl))
        omega
      · have := (ih l' (fun c hc => hg c (by simp [hc])) (by cases l' with | nil => exact absurd rfl he | cons c r => simpa using h0) (by simpa using hn)).2 he
        omega
    refine ⟨?_, fun _ => hpos⟩
    rw [grpH_pos hpos, show (128 * val l' + b.toNat % 128) / 128 = val l' by omega, show 128 + (128 * val l' + b.toNat % 128) % 128 = b.toNat by omega]
    rw [(ih l' (fun c hc => hg c (by simp [hc])) (by cases l' with | nil => simp | cons c r => simpa using h0) (by simpa using hn)).1]
    simp
theorem oneL_val (l : List UInt8) (b : UInt8) (hg : ∀ b ∈ l, 128 ≤ b.toNat) (hb : b.toNat < 128) (h0 : l.head? ≠ some 128) : oneL (val (l ++ [b])) = l ++ [b] := by
  unfold oneL
  rw [val_snoc, show (128 * val l + b.toNat % 128) / 128 = val l by omega, show (128 * val l + b.toNat % 128) % 128 = b.toNat by omega, (grpH_val l hg h0).1]
  simp
theorem oneL_last (n : Nat) : ∃ l b, oneL n = l ++ [b] ∧ (∀ c ∈ l, 128 ≤ c.toNat) ∧ b.toNat < 128 := ⟨_, _, rfl, grpH_ge _, by rw [u8_ofNat (by omega)]; omega⟩
theorem grpH_head (n : Nat) : (grpH n).head? ≠ some 128 := by
  induction n using Nat.strongRecOn with
  | ind n ih =>
    rcases Nat.eq_zero_or_pos n with rfl | h
    · rw [grpH_zero]; simp
    · rw [grpH_pos h]
      by_cases h1 : n / 128 = 0
      · rw [h1, grpH_zero]
        intro e
        rw [List.nil_append, List.head?_cons] at e
        have e1 := congrArg UInt8.toNat (Option.some.inj e)
        rw [u8_ofNat (by omega)] at e1
        have e2 : (128 : UInt8).toNat = 128 := rfl
        omega
      · have := ih (n / 128) (by omega)
        cases hg : grpH (n / 128) with
        | nil => have := val_grpH (n / 128); rw [hg] at this; exact absurd this.symm h1
        | cons c r => rw [hg] at this; simpa using this
theorem oneL_head (n : Nat) : (oneL n).head? ≠ some 128 := by
  unfold oneL
  have := grpH_head (n / 128)
  cases hg : grpH (n / 128) with
  | nil =>
    intro e
    rw [List.nil_append, List.head?_cons] at e
    have e1 := congrArg UInt8.toNat (Option.some.inj e)
    rw [u8_ofNat (by omega)] at e1
    have e2 : (128 : UInt8).toNat = 128 := rfl
    omega
  | cons c r => rw [hg] at this; simpa using this
/-- A text begins with a number's groups. -/
def Beg (s : List UInt8) (n k : Nat) : Prop := n < M64 ∧ k = (oneL n).length ∧ s.take k = oneL n
theorem Beg.of {n : Nat} (h : n < M64) (t : List UInt8) : Beg (oneL n ++ t) n (oneL n).length := ⟨h, rfl, by simp⟩
theorem Beg.le {s n k} (h : Beg s n k) : k ≤ s.length ∧ 0 < k ∧ k ≤ 10 := by
  have h1 := congrArg List.length h.2.2
  rw [List.length_take, ← h.2.1] at h1
  have := oneL_len h.1
  rw [← h.2.1] at this
  omega
theorem Beg.split {s n k} (h : Beg s n k) : s = oneL n ++ s.drop k := by rw [← h.2.2, List.take_append_drop]
/-- Where the groups end. -/
theorem Beg.at {s n k} (h : Beg s n k) : (∀ j b, j + 1 < k → s[j]? = some b → 128 ≤ b.toNat) ∧ ∃ b, s[k - 1]? = some b ∧ b.toNat < 128 := by
  obtain ⟨l, b, e, h1, h2⟩ := oneL_last n
  have hs := h.split
  have hk := h.2.1
  rw [e] at hs hk
  simp at hk
  refine ⟨fun j c hj hc => ?_, b, ?_, h2⟩
  · rw [hs, List.append_assoc, List.getElem?_append_left (by omega)] at hc
    exact h1 c (List.mem_of_getElem? hc)
  · rw [hs, List.append_assoc, List.getElem?_append_right (by omega), hk]; simp
theorem Beg.len_uniq {s n k n' k'} (h : Beg s n k) (h' : Beg s n' k') : k = k' := by
  obtain ⟨a, b, h1, h2⟩ := h.at
  obtain ⟨a', b', h1', h2'⟩ := h'.at
  have := h.le
  have := h'.le
  rcases Nat.lt_trichotomy k k' with hl | hl | hl
  · have := a' (k - 1) b (by omega) h1; omega
  · exact hl
  · have := a (k' - 1) b' (by omega) h1'; omega
theorem Beg.uniq {s n k n' k'} (h : Beg s n k) (h' : Beg s n' k') : n = n' ∧ k = k' := by
  have := h.len_uniq h'
  subst this
  exact ⟨oneL_inj (h.2.2.symm.trans h'.2.2), rfl⟩
open Classical in
/-- The number that a text begins with. -/
noncomputable def readV (s : List UInt8) : Option (Nat × Nat) := if h : ∃ p : Nat × Nat, Beg s p.1 p.2 then some h.choose else none
theorem readV_some {s n k} (h : Beg s n k) : readV s = some (n, k) := by
  unfold readV
  have hex : ∃ p : Nat × Nat, Beg s p.1 p.2 := ⟨(n, k), h⟩
  rw [dif_pos hex]
  obtain ⟨h1, h2⟩ := hex.choose_spec.uniq h
  exact congrArg some (Prod.ext h1 h2)
theorem readV_beg {s n k} (h : readV s = some (n, k)) : Beg s n k := by
  unfold readV at h
  split at h
  · rename_i hex
    have := hex.choose_spec
    injection h with h
    rw [h] at this; exact this
  · cases h
theorem readV_none {s} (h : ∀ n k, ¬ Beg s n k) : readV s = none := by
  unfold readV
  rw [dif_neg (fun ⟨p, hp⟩ => h _ _ hp)]
theorem readV_not {s} (h : readV s = none) (n k) : ¬ Beg s n k := fun hb => by rw [readV_some hb] at h; cases h
/-- .. as Go hands it back. -/
noncomputable def rN (s : List UInt8) : Nat := match readV s with | some p => p.1 | none => 0
noncomputable def rK (s : List UInt8) : Nat := match readV s with | some p => p.2 | none => 0
noncomputable def rB (s : List UInt8) : Bool := (readV s).isSome
theorem rK_le (s : List UInt8) : rK s ≤ s.length ∧ rN s < M64 ∧ rK s ≤ 10 := by
  unfold rK rN
  cases h : readV s with
  | none => simp [M64]
  | some p => obtain ⟨n, k⟩ := p; have := (readV_beg h); exact ⟨this.le.1, this.1, this.le.2.2⟩
theorem r_app {n : Nat} (h : n < M64) (t : List UInt8) : rN (oneL n ++ t) = n ∧ rK (oneL n ++ t) = (oneL n).length ∧ rB (oneL n ++ t) = true := by
  unfold rN rK rB
  rw [readV_some (Beg.of h t)]; exact ⟨rfl, rfl, rfl⟩
theorem r_split {s : List UInt8} (h : rB s = true) : s = oneL (rN s) ++ s.drop (rK s) ∧ rK s = (oneL (rN s)).length := by
  unfold rB at h
  unfold rN rK
  cases hr : readV s with
  | none => rw [hr] at h; cases h
  | some p => obtain ⟨n, k⟩ := p; have := readV_beg hr; exact ⟨this.split, this.2.1⟩
theorem r_none {s : List UInt8} (h : rB s = false) : rN s = 0 ∧ rK s = 0 := by
  unfold rB at h
  unfold rN rK
  cases hr : readV s with
  | none => exact ⟨rfl, rfl⟩
  | some p => rw [hr] at h; cases h
end Go.Wk.Num
namespace Go.Wk.Num
/-- While it is read: what is read so far are groups that go on. -/
structure Rdg (s : List UInt8) (k n : Nat) : Prop where
  le : k ≤ s.length
  k10 : k ≤ 10
  val : n = val (s.take k)
  ge : ∀ b ∈ s.take k, 128 ≤ b.toNat
theorem Rdg.zero (s : List UInt8) : Rdg s 0 0 := ⟨Nat.zero_le _, by decide, rfl, by simp⟩
theorem take_snoc {s : List UInt8} {k : Nat} {b : UInt8} (h : s[k]? = some b) : s.take (k + 1) = s.take k ++ [b] := by
  have hk := (List.getElem?_eq_some_iff.1 h).1
  rw [List.take_succ_eq_append_getElem hk, (List.getElem?_eq_some_iff.1 h).2]
/-- Whatever the text begins with is longer. -/
theorem Rdg.more {s k n N K} (h : Rdg s k n) (hb : Beg s N K) : k < K := by
  rcases Nat.lt_or_ge k K with h1 | h1
  · exact h1
  · obtain ⟨b, h2, h3⟩ := hb.at.2
    have := hb.le
    have h4 : b ∈ s.take k := by
      refine List.mem_of_getElem? (i := K - 1) ?_
      rw [List.getElem?_take_of_lt (by omega)]; exact h2
    have := h.ge b h4; omega
theorem Beg.val {s N K} (h : Beg s N K) : N = Num.val (s.take K) := by rw [h.2.2, val_one]
theorem Rdg.none_end {s k n} (h : Rdg s k n) (he : s.length ≤ k ∨ 10 ≤ k) : readV s = none := readV_none fun N K hb => by
  have := h.more hb; have := hb.le; omega
theorem val_take_le {s : List UInt8} {j k : Nat} (h : j ≤ k) : Num.val (s.take j) ≤ Num.val (s.take k) := by
  have : s.take k = s.take j ++ (s.drop j).take (k - j) := by
    conv => lhs; rw [show k = j + (k - j) by omega, List.take_add]
  rw [this]; exact val_le _ _
theorem Rdg.none_big {s k n b} (h : Rdg s k n) (hx : s[k]? = some b) (hn : 2 ^ 57 ≤ n) : readV s = none := readV_none fun N K hb => by
  have h1 := h.more hb
  have h2 := hb.val
  have h3 := val_take_le (s := s) (show k + 1 ≤ K by omega)
  rw [take_snoc hx, val_snoc, ← h.val] at h3
  have := hb.1
  unfold M64 at this
  omega
theorem readV_none128 {s : List UInt8} (h : s[0]? = some 128) : readV s = none := readV_none fun N K hb => by
  have h1 := oneL_head N
  rw [← hb.2.2] at h1
  have h2 := hb.le
  cases s with
  | nil => simp at h
  | cons c r =>
    simp at h; subst h
    cases K with
    | zero => omega
    | succ K => simp at h1
theorem Rdg.next {s k n} {b : UInt8} (h : Rdg s k n) (hx : s[k]? = some b) (hk : k < 10) (hb : 128 ≤ b.toNat) : Rdg s (k + 1) (128 * n + b.toNat % 128) := by
  have := (List.getElem?_eq_some_iff.1 hx).1
  refine ⟨by omega, by omega, ?_, ?_⟩
  · rw [take_snoc hx, val_snoc, ← h.val]
  · rw [take_snoc hx]
    intro c hc
    rcases List.mem_append.1 hc with hc | hc
    · exact h.ge c hc
    · rw [List.mem_singleton.1 hc]; exact hb
theorem Rdg.done {s k n} {b : UInt8} (h : Rdg s k n) (hx : s[k]? = some b) (hb : b.toNat < 128) (h0 : s[0]? ≠ some 128) (hn : 128 * n + b.toNat % 128 < M64) : readV s = some (128 * n + b.toNat % 128, k + 1) := by
  have hk := (List.getElem?_eq_some_iff.1 hx).1
  have h1 : (s.take k).head? ≠ some 128 := by
    intro e
    apply h0
    cases k with
    | zero => simp at e
    | succ k => cases s with
      | nil => simp at e
      | cons c r => simpa using e
  have h2 := oneL_val (s.take k) b h.ge hb h1
  rw [val_snoc, ← h.val, ← take_snoc hx] at h2
  refine readV_some ⟨hn, ?_, h2.symm⟩
  rw [h2, List.length_take]; omega
/-- The document's way: the number may have run over. -/
theorem Rdg.doneR {s k n} {b : UInt8} (h : Rdg s k n) (hx : s[k]? = some b) (hb : b.toNat < 128) :
    (oneL ((128 * n + b.toNat % 128) % M64) = s.take (k + 1) → readV s = some ((128 * n + b.toNat % 128) % M64, k + 1)) ∧ (oneL ((128 * n + b.toNat % 128) % M64) ≠ s.take (k + 1) → readV s = none) := by
  have hk := (List.getElem?_eq_some_iff.1 hx).1
  constructor
  · intro e
    refine readV_some ⟨Nat.mod_lt _ (by decide), ?_, e.symm⟩
    rw [e, List.length_take]; omega
  · intro e
    refine readV_none fun N K hB => ?_
    have h1 := h.more hB
    have h2 : K = k + 1 := by
      rcases Nat.lt_or_ge (k + 1) K with h3 | h3
      · have := hB.at.1 k b (by omega) hx; omega
      · omega
    subst h2
    have h3 := hB.val
    rw [take_snoc hx, val_snoc, ← h.val] at h3
    apply e
    rw [Nat.mod_eq_of_lt (by rw [← h3]; exact hB.1), ← h3]
    exact hB.2.2.symm
theorem Rdg.lt {s k n} (h : Rdg s k n) : n < 128 ^ k := by
  rw [h.val]
  have gen : ∀ l : List UInt8, Num.val l < 128 ^ l.length := by
    intro l
    induction hl : l.length generalizing l with
    | zero => obtain rfl := List.eq_nil_of_length_eq_zero hl; decide
    | succ m ih =>
      obtain ⟨l', b, rfl⟩ : ∃ l' b, l = l' ++ [b] := ⟨l.dropLast, l.getLast (by intro h; simp [h] at hl), (List.dropLast_concat_getLast _).symm⟩
      have := ih l' (by simpa using hl)
      rw [val_snoc, Nat.pow_succ]; omega
  have := gen (s.take k)
  rw [List.length_take, Nat.min_eq_left h.le] at this
  exact this
end Go.Wk.Num
