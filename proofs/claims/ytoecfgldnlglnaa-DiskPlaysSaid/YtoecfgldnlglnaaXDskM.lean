import Derived.Test.YtoecfgldnlglnaaXBase
set_option linter.unusedVariables false
/-! # The disk, as lists: plain -/
namespace Go.Wk.Dsk
open Go Go.Wk

structure File where
  recs : List ByteArray
  synced : Nat
  cut : Bool
  torn : ByteArray
def File.none : File := ⟨[], 0, false, ⟨#[]⟩⟩
abbrev Fs := List (ByteArray × File)
structure DM where
  fs : Fs
  off : Bool
  fuse : Int
def get : Fs → ByteArray → Option File
  | [], _ => .none
  | (m, g) :: r, n => if n = m then some g else get r n
/-- A file put in by its name, in order. -/
def put : Fs → ByteArray → File → Fs
  | [], n, f => [(n, f)]
  | (m, g) :: r, n, f => if n = m then (n, f) :: r else if sLt n m then (n, f) :: (m, g) :: r else (m, g) :: put r n f
def drop : Fs → ByteArray → Fs
  | [], _ => []
  | (m, g) :: r, n => if n = m then r else (m, g) :: drop r n
def right (n : ByteArray) : Bool := decide (n ≠ ⟨#[]⟩ ∧ n.size ≤ 32)
def burn (D : DM) : DM := if D.fuse > 0 then { D with fuse := D.fuse - 1, off := decide (D.fuse - 1 = 0) } else D
def fileOf (D : DM) (n : ByteArray) : File := (get D.fs n).getD File.none
def append (D : DM) (n r : ByteArray) : Int × DM :=
  if D.off then (7, D) else if right n = false ∨ r = ⟨#[]⟩ then (1, D) else if (fileOf D n).cut then (9, D) else
  if (burn D).off then (7, burn D) else (0, { burn D with fs := put D.fs n { fileOf D n with recs := (fileOf D n).recs ++ [r] } })
def operates (D : DM) (n : ByteArray) (go : Fs → File → Fs) : Int × DM :=
  if D.off then (7, D) else match get D.fs n with
  | .none => (4, D)
  | some f => if (burn D).off then (7, burn D) else (0, { burn D with fs := go D.fs f })
def sync (D : DM) (n : ByteArray) : Int × DM := operates D n fun fs f => put fs n { f with synced := f.recs.length }
def rename (D : DM) (a b : ByteArray) : Int × DM := if D.off then (7, D) else if right b = false then (1, D) else operates D a fun fs f => put (drop fs a) b f
def delete (D : DM) (n : ByteArray) : Int × DM := operates D n fun fs _ => drop fs n
def joined (l : List ByteArray) : ByteArray := ⟨(l.flatMap fun r => r.data.toList).toArray⟩
def bytes (f : File) : ByteArray := joined f.recs ++ f.torn
def read (D : DM) (n : ByteArray) : ByteArray × Int := if D.off then (⟨#[]⟩, 7) else match get D.fs n with
  | .none => (⟨#[]⟩, 4)
  | some f => (bytes f, 0)
def records (D : DM) (n : ByteArray) : Nat × Nat := ((fileOf D n).recs.length, (fileOf D n).synced)
def fuse (D : DM) (n : Int) : DM := { D with fuse := max n 0 }
def start (D : DM) : DM := { D with off := false }
/-- How many records are kept. -/
def keepN (f : File) (keep : List Int) (k : Nat) : Nat := match keep[k]? with
  | some x => (min (max x 0) ((f.recs.length : Int) - f.synced)).toNat
  | .none => 0
def tornN (r : ByteArray) (x : Int) : Nat := (let n := x.tmod r.size; if n < 0 then n + r.size else n).toNat
def crashF (f : File) (keep torn : List Int) (k : Nat) : File :=
  let left := f.synced + keepN f keep k
  { recs := f.recs.take left, synced := left, cut := f.cut || decide (left < f.recs.length),
    torn := match f.recs[left]?, torn[k]? with | some r, some x => r.extract 0 (tornN r x) | _, _ => f.torn }
def crashes (keep torn : List Int) : Fs → Nat → Fs
  | [], _ => []
  | (n, f) :: r, k => if f.synced < f.recs.length then (n, crashF f keep torn k) :: crashes keep torn r (k + 1) else (n, f) :: crashes keep torn r k
def crash (D : DM) (keep torn : List Int) : DM := { D with off := true, fs := crashes keep torn D.fs 0 }
def names (D : DM) : List ByteArray := D.fs.map (·.1)
def new : DM := ⟨[], false, 0⟩
end Go.Wk.Dsk
