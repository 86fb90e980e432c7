import Derived.Laws.StructEq
import Derived.Test.YtoecfgldnlglnaaG4
set_option linter.unusedVariables false
set_option linter.unusedSimpArgs false
set_option linter.unusedSectionVars false
set_option maxRecDepth 20000
namespace Go.Wk
open Go
/-! # Types whose values are rows of numbers, strings, truths: '==', map keys -/
inductive SK where
  | b | s
  | i (k : IntKind)
deriving DecidableEq
def SK.ok : SK → Value → Bool
  | .b, .bool _ => true
  | .s, .string _ => true
  | .i k, .int k' _ => decide (k = k')
  | _, _ => false
def okAll : List SK → List Value → Bool
  | [], [] => true
  | k :: ks, v :: vs => k.ok v && okAll ks vs
  | _, _ => false
def Program.szB (P : Program) (T : TypeId) (n : Nat) : Bool := match P.info? T with
  | some i => decide (i.size = n)
  | none => false
/-- The fields in a row, without a gap. -/
def flatFs (fl : TypeId → Option (List SK)) (P : Program) : List Field → Nat → Option (List SK)
  | [], _ => some []
  | f :: fs, o => if f.name = "_" ∨ f.offset ≠ o then none else match fl f.type with
    | none => none
    | some ks => if Program.szB P f.type ks.length then (flatFs fl P fs (o + ks.length)).map (ks ++ ·) else none
def flatB (P : Program) : Nat → TypeId → Option (List SK)
  | 0, _ => none
  | r + 1, T => match P.underlying T with
    | some .bool => some [.b]
    | some .string => some [.s]
    | some (.int k) => some [.i k]
    | some (.struct fs) => if P.stoodInHeld T then none else flatFs (flatB P r) P fs.toList 0
    | some (.array len E) => match flatB P r E with
      | none => none
      | some ks => if Program.szB P E ks.length then some (List.replicate len ks).flatten else none
    | _ => none
/-- A value of such a type, of its cells. -/
def aggB (P : Program) (T : TypeId) : Bool := match P.underlying T with
  | some (.struct _) | some (.array _ _) => true
  | _ => false
def Mv (P : Program) (T : TypeId) (vs : List Value) (v : Value) : Prop := if aggB P T = true then v = .agg vs.toArray else vs = [v]
theorem okAll_len : ∀ {ks vs}, okAll ks vs = true → vs.length = ks.length
  | [], [], _ => rfl
  | k :: ks, v :: vs, h => by simp only [okAll, Bool.and_eq_true] at h; simp [okAll_len h.2]
  | [], _ :: _, h => by cases h
  | _ :: _, [], h => by cases h
theorem okAll_app : ∀ {ks ks' vs}, okAll (ks ++ ks') vs = true → ∃ us ws, vs = us ++ ws ∧ okAll ks us = true ∧ okAll ks' ws = true
  | [], ks', vs, h => ⟨[], vs, rfl, rfl, h⟩
  | k :: ks, ks', [], h => by cases h
  | k :: ks, ks', v :: vs, h => by
    simp only [List.cons_append, okAll, Bool.and_eq_true] at h
    obtain ⟨us, ws, rfl, h1, h2⟩ := okAll_app h.2
    exact ⟨v :: us, ws, rfl, by simp [okAll, h.1, h1], h2⟩
theorem szB_run {P : Program} {T n} (h : Program.szB P T n = true) (w) : (sizeOf T).run P w = .ok n w := by
  unfold Program.szB at h
  cases hi : P.info? T with
  | none => simp [hi] at h
  | some i =>
    simp [hi] at h
    simp [sizeOf, typeInfo, program, Sem.run_bind, hi, h, pure, bind, Sem.bind, Sem.run]
theorem isAgg_run {P : Program} {T D} (h : P.underlying T = some D) (w) : (isAgg T).run P w = .ok (aggB P T) w := by
  unfold isAgg aggB
  simp only [Sem.run_bind, run_underlying h, Result.andThen_ok, h]
  cases D <;> rfl
/-- A part of a row. -/
theorem part_run {P : Program} {T D} {pre us suf : List Value} (hT : P.underlying T = some D) (hs : Program.szB P T us.length = true) (h1 : aggB P T = false → us.length = 1) (w) : ∃ v, Mv P T us v ∧ (part T (pre ++ us ++ suf).toArray pre.length).run P w = .ok v w := by
  unfold Mv
  cases ha : aggB P T with
  | true =>
    refine ⟨.agg us.toArray, by simp, ?_⟩
    unfold part
    simp only [Sem.run_bind, isAgg_run hT w, Result.andThen_ok, ha, if_true, szB_run hs w, pure, Sem.run]
    congr 2
    simp [List.extract_toArray, List.extract_eq_take_drop]
  | false =>
    obtain ⟨v, rfl⟩ : ∃ v, us = [v] := by
      have := h1 ha
      match us with
      | [v] => exact ⟨v, rfl⟩
    refine ⟨v, by simp, ?_⟩
    unfold part
    simp only [Sem.run_bind, isAgg_run hT w, Result.andThen_ok, ha, Bool.false_eq_true, if_false]
    have : (pre ++ [v] ++ suf).toArray[pre.length]? = some v := by simp
    rw [this]; rfl
theorem flat_under {P : Program} {r T ks} (h : flatB P r T = some ks) : ∃ D, P.underlying T = some D ∧ (aggB P T = false → ks.length = 1) := by
  cases r with
  | zero => cases h
  | succ r =>
    rw [flatB] at h
    cases hu : P.underlying T with
    | none => simp [hu] at h
    | some D =>
      refine ⟨D, rfl, fun ha => ?_⟩
      rw [hu] at h
      unfold aggB at ha
      rw [hu] at ha
      cases D <;> simp at h ha <;> first | (subst h; rfl) | skip
theorem Mv.eq {P : Program} {T us v} (h : aggB P T = true) (hv : Mv P T us v) : v = .agg us.toArray := by unfold Mv at hv; rwa [if_pos h] at hv
theorem Mv.one {P : Program} {T us v} (h : aggB P T = false) (hv : Mv P T us v) : us = [v] := by unfold Mv at hv; rwa [if_neg (by simp [h])] at hv
theorem app_eq {us us' ws ws' : List Value} (h : us.length = us'.length) : (us ++ ws = us' ++ ws') ↔ (us = us' ∧ ws = ws') :=
  ⟨fun e => List.append_inj e h, fun ⟨a, b⟩ => by rw [a, b]⟩
open Classical in
theorem eq_flat {P : Program} : ∀ (r : Nat) (T : TypeId) (ks : List SK), flatB P r T = some ks → ∀ (d : Nat) (us us' : List Value) (v v' : Value), okAll ks us = true → okAll ks us' = true → Mv P T us v → Mv P T us' v' → ∀ w, (Op.equalIn (d + r) T v v').run P w = .ok (decide (us = us')) w
  | 0, _, _, h => by cases h
  | r + 1, T, ks, h => by
    intro d us us' v v' hu hu' hv hv' w
    have ih := eq_flat (P := P) r
    obtain ⟨D, hD, h1⟩ := flat_under h
    rw [flatB, hD] at h
    rw [show d + (r + 1) = (d + r) + 1 by omega]
    cases D with
    | bool =>
      simp at h; subst h
      have ha : aggB P T = false := by simp [aggB, hD]
      obtain rfl := hv.one ha
      obtain rfl := hv'.one ha
      simp only [okAll, Bool.and_true] at hu hu'
      cases v <;> simp [SK.ok] at hu
      cases v' <;> simp [SK.ok] at hu'
      rename_i a b
      simp [Op.equalIn, run_underlying hD]
      cases a <;> cases b <;> rfl
    | string =>
      simp at h; subst h
      have ha : aggB P T = false := by simp [aggB, hD]
      obtain rfl := hv.one ha
      obtain rfl := hv'.one ha
      simp only [okAll, Bool.and_true] at hu hu'
      cases v <;> simp [SK.ok] at hu
      cases v' <;> simp [SK.ok] at hu'
      rename_i a b
      simp only [Op.equalIn, Sem.run_bind, run_underlying hD, Result.andThen_ok, pure, Sem.run]
      by_cases e : a = b
      · subst e; simp [beqT]
      · simp [beqF a b e, e]
    | int k =>
      simp at h; subst h
      have ha : aggB P T = false := by simp [aggB, hD]
      obtain rfl := hv.one ha
      obtain rfl := hv'.one ha
      simp only [okAll, Bool.and_true] at hu hu'
      cases v <;> simp [SK.ok] at hu
      cases v' <;> simp [SK.ok] at hu'
      subst hu; subst hu'
      rename_i a b
      simp [Op.equalIn, run_underlying hD]
      by_cases e : a = b <;> simp [e]
    | struct fs =>
      simp only at h
      split at h
      · cases h
      · rename_i hst
        have ha : aggB P T = true := by simp [aggB, hD]
        obtain rfl := hv.eq ha
        obtain rfl := hv'.eq ha
        have hfs : P.fieldsOf T = fs := by simp [Program.fieldsOf, hD]
        rw [run_equalIn_struct w (d + r) T _ _ (by rw [hfs]; exact hD) (by simpa using hst), hfs]
        have gen : ∀ (l : List Field) (pre pre' us us' : List Value) (ks : List SK), flatFs (flatB P r) P l pre.length = some ks → pre.length = pre'.length → okAll ks us = true → okAll ks us' = true →
            (Op.eqFields (d + r) (pre ++ us).toArray (pre' ++ us').toArray l).run P w = .ok (decide (us = us')) w := by
          intro l
          induction l with
          | nil =>
            intro pre pre' us us' ks hl hp hu hu'
            simp [flatFs] at hl; subst hl
            obtain rfl := List.eq_nil_of_length_eq_zero (okAll_len hu)
            obtain rfl := List.eq_nil_of_length_eq_zero (okAll_len hu')
            rfl
          | cons f l ihl =>
            intro pre pre' us us' ks hl hp hu hu'
            rw [flatFs] at hl
            split at hl
            · cases hl
            · rename_i hfo
              have hfn : f.name ≠ "_" := fun e => hfo (.inl e)
              have hfo : f.offset = pre.length := Decidable.byContradiction fun e => hfo (.inr e)
              cases hk : flatB P r f.type with
              | none => simp [hk] at hl
              | some k0 =>
                simp only [hk] at hl
                split at hl
                · rename_i hsz
                  cases hk2 : flatFs (flatB P r) P l (pre.length + k0.length) with
                  | none => simp [hk2] at hl
                  | some k1 =>
                    simp only [hk2, Option.map_some, Option.some.injEq] at hl
                    subst hl
                    obtain ⟨a, b, rfl, ha1, hb1⟩ := okAll_app hu
                    obtain ⟨a', b', rfl, ha2, hb2⟩ := okAll_app hu'
                    have hla := okAll_len ha1
                    have hla' := okAll_len ha2
                    obtain ⟨D', hD', h1'⟩ := flat_under hk
                    obtain ⟨x, hx, hrx⟩ := part_run (P := P) (pre := pre) (us := a) (suf := b) hD' (by rw [hla]; exact hsz) (fun h => by rw [hla]; exact h1' h) w
                    obtain ⟨y, hy, hry⟩ := part_run (P := P) (pre := pre') (us := a') (suf := b') hD' (by rw [hla']; exact hsz) (fun h => by rw [hla']; exact h1' h) w
                    rw [Op.eqFields, if_pos hfn]
                    rw [List.append_assoc] at hrx hry
                    simp only [Sem.run_bind, hfo, hrx, Result.andThen_ok]
                    rw [hp, hry]
                    simp only [Result.andThen_ok, ih _ _ hk d a a' x y ha1 ha2 hx hy w]
                    by_cases e : a = a'
                    · subst e
                      have := ihl (pre ++ a) (pre' ++ a) b b' k1 (by rw [List.length_append, hla]; exact hk2) (by simp [hp]) hb1 hb2
                      simp only [List.append_assoc] at this
                      simp only [decide_true, Bool.not_true, Bool.false_eq_true, if_false, this]
                      congr 1
                      simp
                    · have : ¬ (a ++ b = a' ++ b') := fun h => e ((app_eq (by rw [hla, hla'])).1 h).1
                      simp [e, this, pure, Sem.run]
                · cases hl
        simpa using gen fs.toList [] [] us us' ks (by simpa using h) rfl hu hu'
    | array len E =>
      cases hk : flatB P r E with
      | none => simp [hk] at h
      | some k0 =>
        simp only [hk] at h
        split at h
        · rename_i hsz
          simp only [Option.some.injEq] at h
          subst h
          have ha : aggB P T = true := by simp [aggB, hD]
          obtain rfl := hv.eq ha
          obtain rfl := hv'.eq ha
          obtain ⟨D', hD', h1'⟩ := flat_under hk
          have gen : ∀ (m i : Nat) (pre pre' us us' : List Value), pre.length = i * k0.length → pre'.length = i * k0.length → okAll (List.replicate m k0).flatten us = true → okAll (List.replicate m k0).flatten us' = true →
              (forIn (m := Sem) (List.range' i m) ((none, ()) : Option Bool × Unit) (fun i _ => do
                let a ← part E (pre ++ us).toArray (i * k0.length)
                let b ← part E (pre' ++ us').toArray (i * k0.length)
                let r ← Op.equalIn (d + r) E a b
                if (!r) = true then pure (ForInStep.done (some false, ())) else pure (ForInStep.yield (none, ())))).run P w = .ok (if us = us' then (none, ()) else (some false, ())) w := by
            intro m
            induction m with
            | zero =>
              intro i pre pre' us us' _ _ hu hu'
              obtain rfl := List.eq_nil_of_length_eq_zero (okAll_len hu)
              obtain rfl := List.eq_nil_of_length_eq_zero (okAll_len hu')
              simp [List.range'_zero, pure, Sem.run]
            | succ m ihm =>
              intro i pre pre' us us' hp hp' hu hu'
              rw [List.replicate_succ, List.flatten_cons] at hu hu'
              obtain ⟨a, b, rfl, ha1, hb1⟩ := okAll_app hu
              obtain ⟨a', b', rfl, ha2, hb2⟩ := okAll_app hu'
              have hla := okAll_len ha1
              have hla' := okAll_len ha2
              obtain ⟨x, hx, hrx⟩ := part_run (P := P) (pre := pre) (us := a) (suf := b) hD' (by rw [hla]; exact hsz) (fun h => by rw [hla]; exact h1' h) w
              obtain ⟨y, hy, hry⟩ := part_run (P := P) (pre := pre') (us := a') (suf := b') hD' (by rw [hla']; exact hsz) (fun h => by rw [hla']; exact h1' h) w
              rw [List.append_assoc] at hrx hry
              rw [hp] at hrx
              rw [hp'] at hry
              rw [List.range'_succ, List.forIn_cons]
              simp only [Sem.run_bind, hrx, hry, Result.andThen_ok, ih _ _ hk d a a' x y ha1 ha2 hx hy w]
              by_cases e : a = a'
              · subst e
                have := ihm (i + 1) (pre ++ a) (pre' ++ a) b b' (by rw [List.length_append, hp, hla, Nat.add_mul]; omega) (by rw [List.length_append, hp', hla, Nat.add_mul]; omega) hb1 hb2
                simp only [List.append_assoc] at this
                simp only [decide_true, Bool.not_true, Bool.false_eq_true, if_false, Sem.run_pure, Result.andThen_ok]
                rw [this]
                simp
              · have : ¬ (a ++ b = a' ++ b') := fun h => e ((app_eq (by rw [hla, hla'])).1 h).1
                simp [e, this, pure, Sem.run]
          have g0 := gen len 0 [] [] us us' (by simp) (by simp) hu hu'
          simp only [List.nil_append] at g0
          rw [Op.equalIn]
          simp only [Sem.run_bind, run_underlying hD, Result.andThen_ok, szB_run hsz w]
          rw [Std.Legacy.Range.forIn_eq_forIn_range', show ([:len] : Std.Legacy.Range).size = len by simp [Std.Legacy.Range.size], g0]
          by_cases e : us = us' <;> simp [e, pure, Sem.run]
        · cases h
    | _ => simp at h
end Go.Wk
namespace Go.Wk
open Go
theorem chk_flat {P : Program} (bb : Bool) : ∀ (r : Nat) (T : TypeId) (ks : List SK), flatB P r T = some ks → ∀ (d : Nat) (us : List Value) (v : Value), okAll ks us = true → Mv P T us v → ∀ w, (Instr.checkKey bb (d + r) T v).run P w = .ok () w
  | 0, _, _, h => by cases h
  | r + 1, T, ks, h => by
    intro d us v hu hv w
    have ih := chk_flat (P := P) bb r
    obtain ⟨D, hD, h1⟩ := flat_under h
    rw [flatB, hD] at h
    rw [show d + (r + 1) = (d + r) + 1 by omega]
    rw [Instr.checkKey]
    simp only [Sem.run_bind, run_underlying hD, Result.andThen_ok]
    cases D with
    | bool => simp [pure, Sem.run]
    | string => simp [pure, Sem.run]
    | int k => simp [pure, Sem.run]
    | struct fs =>
      simp only at h
      split at h
      · cases h
      · have ha : aggB P T = true := by simp [aggB, hD]
        obtain rfl := hv.eq ha
        simp only
        rw [← Array.forIn_toList]
        have gen : ∀ (l : List Field) (pre us : List Value) (ks : List SK), flatFs (flatB P r) P l pre.length = some ks → okAll ks us = true →
            (forIn (m := Sem) l PUnit.unit (fun f _ => do
              if f.name ≠ "_" then do
                let a ← part f.type (pre ++ us).toArray f.offset
                Instr.checkKey bb (d + r) f.type a
                pure (ForInStep.yield PUnit.unit)
              else pure (ForInStep.yield PUnit.unit))).run P w = .ok PUnit.unit w := by
          intro l
          induction l with
          | nil => intro pre us ks hl hu; rfl
          | cons f l ihl =>
            intro pre us ks hl hu
            rw [flatFs] at hl
            split at hl
            · cases hl
            · rename_i hfo
              have hfn : f.name ≠ "_" := fun e => hfo (.inl e)
              have hfo : f.offset = pre.length := Decidable.byContradiction fun e => hfo (.inr e)
              cases hk : flatB P r f.type with
              | none => simp [hk] at hl
              | some k0 =>
                simp only [hk] at hl
                split at hl
                · rename_i hsz
                  cases hk2 : flatFs (flatB P r) P l (pre.length + k0.length) with
                  | none => simp [hk2] at hl
                  | some k1 =>
                    simp only [hk2, Option.map_some, Option.some.injEq] at hl
                    subst hl
                    obtain ⟨a, b, rfl, ha1, hb1⟩ := okAll_app hu
                    have hla := okAll_len ha1
                    obtain ⟨D', hD', h1'⟩ := flat_under hk
                    obtain ⟨x, hx, hrx⟩ := part_run (P := P) (pre := pre) (us := a) (suf := b) hD' (by rw [hla]; exact hsz) (fun h => by rw [hla]; exact h1' h) w
                    rw [List.append_assoc] at hrx
                    have := ihl (pre ++ a) b k1 (by rw [List.length_append, hla]; exact hk2) hb1
                    simp only [List.append_assoc] at this
                    rw [List.forIn_cons, if_pos hfn]
                    simp only [Sem.run_bind, hfo, hrx, Result.andThen_ok, ih _ _ hk d a x ha1 hx w, Sem.run_pure]
                    exact this
                · cases hl
        have := gen fs.toList [] us ks (by simpa using h) hu
        simpa using this
    | array len E =>
      cases hk : flatB P r E with
      | none => simp [hk] at h
      | some k0 =>
        simp only [hk] at h
        split at h
        · rename_i hsz
          simp only [Option.some.injEq] at h
          subst h
          have ha : aggB P T = true := by simp [aggB, hD]
          obtain rfl := hv.eq ha
          obtain ⟨D', hD', h1'⟩ := flat_under hk
          have gen : ∀ (m i : Nat) (pre us : List Value), pre.length = i * k0.length → okAll (List.replicate m k0).flatten us = true →
              (forIn (m := Sem) (List.range' i m) PUnit.unit (fun i _ => do
                let s ← sizeOf E
                let a ← part E (pre ++ us).toArray (i * s)
                Instr.checkKey bb (d + r) E a
                pure (ForInStep.yield PUnit.unit))).run P w = .ok PUnit.unit w := by
            intro m
            induction m with
            | zero => intro i pre us _ hu; simp [List.range'_zero, pure, Sem.run]
            | succ m ihm =>
              intro i pre us hp hu
              rw [List.replicate_succ, List.flatten_cons] at hu
              obtain ⟨a, b, rfl, ha1, hb1⟩ := okAll_app hu
              have hla := okAll_len ha1
              obtain ⟨x, hx, hrx⟩ := part_run (P := P) (pre := pre) (us := a) (suf := b) hD' (by rw [hla]; exact hsz) (fun h => by rw [hla]; exact h1' h) w
              rw [List.append_assoc, hp] at hrx
              have := ihm (i + 1) (pre ++ a) b (by rw [List.length_append, hp, hla, Nat.add_mul]; omega) hb1
              simp only [List.append_assoc] at this
              rw [List.range'_succ, List.forIn_cons]
              simp only [Sem.run_bind, szB_run hsz w, hrx, Result.andThen_ok, ih _ _ hk d a x ha1 hx w, Sem.run_pure] at this ⊢
              exact this
          have g0 := gen len 0 [] us (by simp) hu
          simp only [List.nil_append] at g0
          simp only [Std.Legacy.Range.forIn_eq_forIn_range', show ([:len] : Std.Legacy.Range).size = len by simp [Std.Legacy.Range.size]]
          simp only [Sem.run_bind, g0, Result.andThen_ok]
          rfl
        · cases h
    | _ => simp at h
theorem okAll_bits : ∀ {ks vs}, okAll ks vs = true → ∀ n, (vs.zip vs).all (fun p => Instr.sameBits n p.1 p.2) = true
  | [], [], _, n => rfl
  | k :: ks, v :: vs, h, n => by
    simp only [okAll, Bool.and_eq_true] at h
    have := okAll_bits h.2 n
    simp only [List.zip_cons_cons, List.all_cons, this, Bool.and_true]
    cases k <;> cases v <;> simp [SK.ok] at h <;> cases n <;> simp [Instr.sameBits, beqT]
  | [], _ :: _, h, n => by cases h
  | _ :: _, [], h, n => by cases h
theorem sameNow_agg {D : TypeDesc} {k v} : Instr.sameNow D (.agg k) v = none := by
  cases D <;> rfl
/-- Keys that are structs or arrays of such. -/
theorem KeyT.flat {α : Type} [DecidableEq α] {P : Program} {K : TypeId} {enc : α → List Value} {r : Nat} {ks : List SK} (hk : flatB P r K = some ks) (hr : r ≤ 9999) (ha : aggB P K = true) (hok : ∀ a, okAll ks (enc a) = true) (hinj : ∀ a b, enc a = enc b → a = b) :
    KeyT P K fun a => .agg (enc a).toArray where
  chk := fun a b w => by
    have := chk_flat b r K ks hk (10000 - r) (enc a) (.agg (enc a).toArray) (hok a) (by unfold Mv; rw [if_pos ha]) w
    rwa [show 10000 - r + r = 10000 by omega] at this
  find := fun kv k w => by
    obtain ⟨D, hD, _⟩ := flat_under hk
    unfold Instr.findKey
    simp only [Sem.run_bind, run_underlying hD, Result.andThen_ok]
    have hask : ∀ (kv : Kv α) (i : Nat), (Instr.findAsking K (.agg (enc k).toArray) (ents (fun a => .agg (enc a).toArray) kv).toList i).run P w = .ok (findI kv k i) w := by
      intro kv
      induction kv with
      | nil => intro i; rfl
      | cons x rest ih =>
        intro i
        obtain ⟨a, v, n⟩ := x
        have ih' := ih (i + 1)
        simp only [ents] at ih' ⊢
        simp only [List.map_cons, Instr.findAsking, findI]
        have he := eq_flat (P := P) r K ks hk (10000 - r) (enc k) (enc a) (.agg (enc k).toArray) (.agg (enc a).toArray) (hok k) (hok a) (by unfold Mv; rw [if_pos ha]) (by unfold Mv; rw [if_pos ha]) w
        rw [show 10000 - r + r = 10000 by omega] at he
        have he' : (Op.equal K (.agg (enc k).toArray) (.agg (enc a).toArray)).run P w = _ := he
        simp only [Sem.run_bind, he', Result.andThen_ok]
        by_cases e : k = a
        · subst e
          simp [pure, Sem.run]
        · have : ¬ enc k = enc a := fun h => e (hinj _ _ h)
          simp only [this, decide_false, Bool.false_eq_true, if_false, if_neg e]
          exact ih'
    cases kv with
    | nil => rfl
    | cons x rest =>
      have : Instr.findNow D (.agg (enc k).toArray) (ents (fun a => Value.agg (enc a).toArray) (x :: rest)).toList 0 = none := by
        obtain ⟨a, v, n⟩ := x
        simp only [ents, List.map_cons, Instr.findNow, sameNow_agg]
      simp only [this]
      exact hask _ 0
  bits := fun a => by
    show Instr.sameBits (9999 + 1) (.agg (enc a).toArray) (.agg (enc a).toArray) = true
    rw [Instr.sameBits]
    have := okAll_bits (hok a) 9999
    simpa using this
section
variable {c : Cx} {e : Env} {l : Bl} {d : Option Tmp} {ty : TypeId} {pos : String} {aft : Array Edge} {g : Option (Nat × Bool)} {x y : Operand} {T T' : TypeId} {α : Type} [DecidableEq α] {enc : α → List Value} {a b : α} {r : Nat} {ks : List SK}
/-- '==' of two such. -/
theorem eqA (hk : flatB c.P r T = some ks) (hr : r ≤ 9999) (ha : aggB c.P T = true) (hg : c.P.eqGuardType c.P.depth T = false) (hok : ∀ a, okAll ks (enc a) = true) (hinj : ∀ a b, enc a = enc b → a = b)
    (hx : ev e x = some (.agg (enc a).toArray)) (hy : ev e y = some (.agg (enc b).toArray)) : Sp c l ⟨d, .binOp .eql T x y T', ty, pos, aft, g⟩ e (.bool (decide (a = b))) := fun w hv ac hac => by
  have h1 := hac.eval hx; have h2 := hac.eval hy
  have he := eq_flat (P := c.P) r T ks hk (10000 - r) (enc a) (enc b) (.agg (enc a).toArray) (.agg (enc b).toArray) (hok a) (hok b) (by unfold Mv; rw [if_pos ha]) (by unfold Mv; rw [if_pos ha]) w
  rw [show 10000 - r + r = 10000 by omega] at he
  have he' : (Op.equal T (.agg (enc a).toArray) (.agg (enc b).toArray)).run c.P w = _ := he
  unfold execOp
  simp only [h1, h2]
  have hgd : (eqGuard .eql T x y (.agg (enc a).toArray) (.agg (enc b).toArray)).run c.P w = .ok () w := by
    unfold eqGuard; simp [program, Sem.run_bind, hg, pure, bind, Sem.bind, Sem.run]
  simp only [Sem.run_bind, hgd, Result.andThen_ok, binOp, he', pure, Sem.run]
  congr 3
  exact decide_eq_decide.2 ⟨hinj _ _, fun e => e ▸ rfl⟩
theorem neA (hk : flatB c.P r T = some ks) (hr : r ≤ 9999) (ha : aggB c.P T = true) (hg : c.P.eqGuardType c.P.depth T = false) (hok : ∀ a, okAll ks (enc a) = true) (hinj : ∀ a b, enc a = enc b → a = b)
    (hx : ev e x = some (.agg (enc a).toArray)) (hy : ev e y = some (.agg (enc b).toArray)) : Sp c l ⟨d, .binOp .neq T x y T', ty, pos, aft, g⟩ e (.bool (decide (a ≠ b))) := fun w hv ac hac => by
  have h1 := hac.eval hx; have h2 := hac.eval hy
  have he := eq_flat (P := c.P) r T ks hk (10000 - r) (enc a) (enc b) (.agg (enc a).toArray) (.agg (enc b).toArray) (hok a) (hok b) (by unfold Mv; rw [if_pos ha]) (by unfold Mv; rw [if_pos ha]) w
  rw [show 10000 - r + r = 10000 by omega] at he
  have he' : (Op.equal T (.agg (enc a).toArray) (.agg (enc b).toArray)).run c.P w = _ := he
  unfold execOp
  simp only [h1, h2]
  have hgd : (eqGuard .neq T x y (.agg (enc a).toArray) (.agg (enc b).toArray)).run c.P w = .ok () w := by
    unfold eqGuard; simp [program, Sem.run_bind, hg, pure, bind, Sem.bind, Sem.run]
  simp only [Sem.run_bind, hgd, Result.andThen_ok, binOp, he', pure, Sem.run]
  congr 2
  by_cases e : a = b
  · subst e; simp
  · have : ¬ enc a = enc b := fun h => e (hinj _ _ h)
    simp [e, this]
end
end Go.Wk
