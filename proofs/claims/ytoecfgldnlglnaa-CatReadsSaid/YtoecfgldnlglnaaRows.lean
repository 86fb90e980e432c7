/-
  No cell of these rows narrows 'for every input' (looked for: loops, veiled, ifaces, maps, wideKeys, modest, calm, conditions, laid).
  DERIVED. THE GIVEN ROWS OF THIS SEAT. 9 by the template 'for every input the law returns true; each argument reads behind the call as it read before'; 0 by the template 'total and deterministic' (their statements: YtoecfgldnlglnaaTotals.lean).
  GIVEN WITH THE SEED: the statements are not yours to turn. If you find one false, say at which input.
  Laid BY PROGRAM, IN A SANDBOX (cutbox-rows.mjs): the forced cells as the released guide's own fill.sh prints them over the translation 27f982e5661b2037… (all of the seat's roots in one cut). By AI agents, Wed Nov 11 2026. No macro, syntax, notation, axiom, sorry.
-/
import Derived.Test.YtoecfgldnlglnaaChecked
import GoSem.Claim
import GoSem.ClaimJoined
import GoSem.ClaimMapViews
import Derived.JoinedTies
import Derived.KernelRfl
namespace Go.Proofs.Ytoecfgldnlglnaa
/- THE CELL 'sum', in the pinned program and in every row, IS THE sha256 OF THE DUMP (.gsa) THAT YtoecfgldnlglnaaProg.lean LOADS. Nothing in Lean hashes anything: it is a label: what it is worth is what the hold of that sum in a sandbox is worth. -/
noncomputable def Try.pinned : Pinned := { name := "ytoecfgldnlglnaa", sum := "27f982e5661b20372b9ecee19793a1e292c4f8fa19715e4e89be83794c238433", checked := Try.checked }
namespace Rows
def none {H : Type} : Left H := { results := [], args := [] }

/-- 'wapentakelaw07.DiskBegins': WHATEVER THE INPUT: true; the input reads as it did. -/
def diskBeginsSpec : ChangeSpec := { name := "diskBegins", fn := fun _ => fun
  | [d1, d2] => { results := [.lit (.bool true)], args := [d1, d2] }
  | _ => none }
def diskBeginsRow : OpenClaim := { program := "ytoecfgldnlglnaa", sum := "27f982e5661b20372b9ecee19793a1e292c4f8fa19715e4e89be83794c238433", func := "wapentake/wapentakelaw07.DiskBegins", spec := "diskBegins", inPlace := ["internal/abi.NoEscape", "internal/bytealg.MakeNoZero"], unfollowed := true, recurses := true, plainKeys := false, apart := false }
def DiskBeginsSaid : Prop := diskBeginsRow.holds Try.pinned (OpenSpec.ofChange diskBeginsSpec)

/-- ITS FALSE NEIGHBOUR: 'it returns false'. Refute it at one input. -/
def diskBeginsWrong : ChangeSpec := { name := "diskBegins", fn := fun _ => fun
  | [d1, d2] => { results := [.lit (.bool false)], args := [d1, d2] }
  | _ => none }
def DiskBeginsWrongFalsely : Prop := diskBeginsRow.holds Try.pinned (OpenSpec.ofChange diskBeginsWrong)

/-- 'wapentakelaw07.DiskCounts': WHATEVER THE INPUT: true; the input reads as it did. -/
def diskCountsSpec : ChangeSpec := { name := "diskCounts", fn := fun _ => fun
  | [d1, d2] => { results := [.lit (.bool true)], args := [d1, d2] }
  | _ => none }
def diskCountsRow : OpenClaim := { program := "ytoecfgldnlglnaa", sum := "27f982e5661b20372b9ecee19793a1e292c4f8fa19715e4e89be83794c238433", func := "wapentake/wapentakelaw07.DiskCounts", spec := "diskCounts", inPlace := ["internal/abi.NoEscape", "internal/bytealg.MakeNoZero"], unfollowed := true, recurses := true, plainKeys := false, apart := false }
def DiskCountsSaid : Prop := diskCountsRow.holds Try.pinned (OpenSpec.ofChange diskCountsSpec)

/-- ITS FALSE NEIGHBOUR: 'it returns false'. Refute it at one input. -/
def diskCountsWrong : ChangeSpec := { name := "diskCounts", fn := fun _ => fun
  | [d1, d2] => { results := [.lit (.bool false)], args := [d1, d2] }
  | _ => none }
def DiskCountsWrongFalsely : Prop := diskCountsRow.holds Try.pinned (OpenSpec.ofChange diskCountsWrong)

/-- 'wapentakelaw07.DiskLasts': WHATEVER THE INPUT: true; the input reads as it did. -/
def diskLastsSpec : ChangeSpec := { name := "diskLasts", fn := fun _ => fun
  | [d1, d2, d3, d4] => { results := [.lit (.bool true)], args := [d1, d2, d3, d4] }
  | _ => none }
def diskLastsRow : OpenClaim := { program := "ytoecfgldnlglnaa", sum := "27f982e5661b20372b9ecee19793a1e292c4f8fa19715e4e89be83794c238433", func := "wapentake/wapentakelaw07.DiskLasts", spec := "diskLasts", inPlace := ["internal/abi.NoEscape", "internal/bytealg.MakeNoZero"], unfollowed := true, recurses := true, plainKeys := false, apart := false }
def DiskLastsSaid : Prop := diskLastsRow.holds Try.pinned (OpenSpec.ofChange diskLastsSpec)

/-- ITS FALSE NEIGHBOUR: 'it returns false'. Refute it at one input. -/
def diskLastsWrong : ChangeSpec := { name := "diskLasts", fn := fun _ => fun
  | [d1, d2, d3, d4] => { results := [.lit (.bool false)], args := [d1, d2, d3, d4] }
  | _ => none }
def DiskLastsWrongFalsely : Prop := diskLastsRow.holds Try.pinned (OpenSpec.ofChange diskLastsWrong)

/-- 'wapentakelaw07.DiskPlays': WHATEVER THE INPUT: true; the input reads as it did. -/
def diskPlaysSpec : ChangeSpec := { name := "diskPlays", fn := fun _ => fun
  | [d] => { results := [.lit (.bool true)], args := [d] }
  | _ => none }
def diskPlaysRow : OpenClaim := { program := "ytoecfgldnlglnaa", sum := "27f982e5661b20372b9ecee19793a1e292c4f8fa19715e4e89be83794c238433", func := "wapentake/wapentakelaw07.DiskPlays", spec := "diskPlays", inPlace := ["internal/abi.NoEscape", "internal/bytealg.MakeNoZero"], unfollowed := true, recurses := true, plainKeys := false, apart := false }
def DiskPlaysSaid : Prop := diskPlaysRow.holds Try.pinned (OpenSpec.ofChange diskPlaysSpec)

/-- ITS FALSE NEIGHBOUR: 'it returns false'. Refute it at one input. -/
def diskPlaysWrong : ChangeSpec := { name := "diskPlays", fn := fun _ => fun
  | [d] => { results := [.lit (.bool false)], args := [d] }
  | _ => none }
def DiskPlaysWrongFalsely : Prop := diskPlaysRow.holds Try.pinned (OpenSpec.ofChange diskPlaysWrong)

/-- 'wapentakelaw07.DiskTwin': WHATEVER THE INPUT: true; the input reads as it did. -/
def diskTwinSpec : ChangeSpec := { name := "diskTwin", fn := fun _ => fun
  | [d1, d2] => { results := [.lit (.bool true)], args := [d1, d2] }
  | _ => none }
def diskTwinRow : OpenClaim := { program := "ytoecfgldnlglnaa", sum := "27f982e5661b20372b9ecee19793a1e292c4f8fa19715e4e89be83794c238433", func := "wapentake/wapentakelaw07.DiskTwin", spec := "diskTwin", inPlace := ["internal/abi.NoEscape", "internal/bytealg.MakeNoZero"], unfollowed := true, recurses := true, plainKeys := false, apart := false }
def DiskTwinSaid : Prop := diskTwinRow.holds Try.pinned (OpenSpec.ofChange diskTwinSpec)

/-- ITS FALSE NEIGHBOUR: 'it returns false'. Refute it at one input. -/
def diskTwinWrong : ChangeSpec := { name := "diskTwin", fn := fun _ => fun
  | [d1, d2] => { results := [.lit (.bool false)], args := [d1, d2] }
  | _ => none }
def DiskTwinWrongFalsely : Prop := diskTwinRow.holds Try.pinned (OpenSpec.ofChange diskTwinWrong)

/-- 'wapentakelaw20.CatBack': WHATEVER THE INPUT: true; the input reads as it did. -/
def catBackSpec : ChangeSpec := { name := "catBack", fn := fun _ => fun
  | [d1, d2, d3, d4] => { results := [.lit (.bool true)], args := [d1, d2, d3, d4] }
  | _ => none }
def catBackRow : OpenClaim := { program := "ytoecfgldnlglnaa", sum := "27f982e5661b20372b9ecee19793a1e292c4f8fa19715e4e89be83794c238433", func := "wapentake/wapentakelaw20.CatBack", spec := "catBack", inPlace := ["internal/bytealg.Compare"], unfollowed := true, recurses := true, plainKeys := false, apart := false }
def CatBackSaid : Prop := catBackRow.holds Try.pinned (OpenSpec.ofChange catBackSpec)

/-- ITS FALSE NEIGHBOUR: 'it returns false'. Refute it at one input. -/
def catBackWrong : ChangeSpec := { name := "catBack", fn := fun _ => fun
  | [d1, d2, d3, d4] => { results := [.lit (.bool false)], args := [d1, d2, d3, d4] }
  | _ => none }
def CatBackWrongFalsely : Prop := catBackRow.holds Try.pinned (OpenSpec.ofChange catBackWrong)

/-- 'wapentakelaw20.CatOne': WHATEVER THE INPUT: true; the input reads as it did. -/
def catOneSpec : ChangeSpec := { name := "catOne", fn := fun _ => fun
  | [d] => { results := [.lit (.bool true)], args := [d] }
  | _ => none }
def catOneRow : OpenClaim := { program := "ytoecfgldnlglnaa", sum := "27f982e5661b20372b9ecee19793a1e292c4f8fa19715e4e89be83794c238433", func := "wapentake/wapentakelaw20.CatOne", spec := "catOne", inPlace := ["internal/bytealg.Compare"], unfollowed := true, recurses := true, plainKeys := false, apart := false }
def CatOneSaid : Prop := catOneRow.holds Try.pinned (OpenSpec.ofChange catOneSpec)

/-- ITS FALSE NEIGHBOUR: 'it returns false'. Refute it at one input. -/
def catOneWrong : ChangeSpec := { name := "catOne", fn := fun _ => fun
  | [d] => { results := [.lit (.bool false)], args := [d] }
  | _ => none }
def CatOneWrongFalsely : Prop := catOneRow.holds Try.pinned (OpenSpec.ofChange catOneWrong)

/-- 'wapentakelaw20.CatPlays': WHATEVER THE INPUT: true; the input reads as it did. -/
def catPlaysSpec : ChangeSpec := { name := "catPlays", fn := fun _ => fun
  | [d] => { results := [.lit (.bool true)], args := [d] }
  | _ => none }
def catPlaysRow : OpenClaim := { program := "ytoecfgldnlglnaa", sum := "27f982e5661b20372b9ecee19793a1e292c4f8fa19715e4e89be83794c238433", func := "wapentake/wapentakelaw20.CatPlays", spec := "catPlays", inPlace := ["internal/bytealg.Compare"], unfollowed := true, recurses := true, plainKeys := false, apart := false }
def CatPlaysSaid : Prop := catPlaysRow.holds Try.pinned (OpenSpec.ofChange catPlaysSpec)

/-- ITS FALSE NEIGHBOUR: 'it returns false'. Refute it at one input. -/
def catPlaysWrong : ChangeSpec := { name := "catPlays", fn := fun _ => fun
  | [d] => { results := [.lit (.bool false)], args := [d] }
  | _ => none }
def CatPlaysWrongFalsely : Prop := catPlaysRow.holds Try.pinned (OpenSpec.ofChange catPlaysWrong)

/-- 'wapentakelaw20.CatReads': WHATEVER THE INPUT: true; the input reads as it did. -/
def catReadsSpec : ChangeSpec := { name := "catReads", fn := fun _ => fun
  | [d] => { results := [.lit (.bool true)], args := [d] }
  | _ => none }
def catReadsRow : OpenClaim := { program := "ytoecfgldnlglnaa", sum := "27f982e5661b20372b9ecee19793a1e292c4f8fa19715e4e89be83794c238433", func := "wapentake/wapentakelaw20.CatReads", spec := "catReads", inPlace := ["internal/bytealg.Compare"], unfollowed := true, recurses := true, plainKeys := false, apart := false }
def CatReadsSaid : Prop := catReadsRow.holds Try.pinned (OpenSpec.ofChange catReadsSpec)

/-- ITS FALSE NEIGHBOUR: 'it returns false'. Refute it at one input. -/
def catReadsWrong : ChangeSpec := { name := "catReads", fn := fun _ => fun
  | [d] => { results := [.lit (.bool false)], args := [d] }
  | _ => none }
def CatReadsWrongFalsely : Prop := catReadsRow.holds Try.pinned (OpenSpec.ofChange catReadsWrong)

/- THE SECOND FORM. 'bulk': how many values and letters a reading holds, each counted each time it is reached (what is shared counts as often as it is met; a slice's spare places count too). A statement '..UptoSaid' is the law's where the arguments, and the package variables that the reading takes, are together of bulk at most 1048576: NARROWER than '..Said'. Prove '..Said' where nothing that the law and all that it calls make is longer than what came in: it says more and counts as full. Else prove '..UptoSaid'. A law counts once. -/
mutual
def uptoBulk {H : Type} : DataW H → Nat
  | .lit (.string bytes) => bytes.length + 1
  | .lit _ => 1
  | .nil => 1
  | .ptr d => uptoBulk d + 1
  | .slice elems spare => uptoBulkAll elems + uptoBulkAll spare + 1
  | .agg parts => uptoBulkAll parts + 1
  | .iface _ d => uptoBulk d + 1
  | .map entries => uptoBulkEntries entries + 1
  | .held _ => 1
def uptoBulkAll {H : Type} : List (DataW H) → Nat
  | [] => 0
  | d :: r => uptoBulk d + uptoBulkAll r
def uptoBulkEntries {H : Type} : List (Lit × DataW H) → Nat
  | [] => 0
  | x :: r => uptoBulkEntry x + uptoBulkEntries r
def uptoBulkEntry {H : Type} : Lit × DataW H → Nat
  | (.string bytes, d) => bytes.length + uptoBulk d + 1
  | (_, d) => uptoBulk d + 1
 end
def uptoSmall : (H : Type) → List (DataW H) → Bool := fun _ ds => decide (uptoBulkAll ds ≤ 1048576)
def OpenSpec.upto (s : _root_.Go.ChangeSpec) : _root_.Go.OpenSpec := { _root_.Go.OpenSpec.ofChange s with cond := some uptoSmall }

/-- 'wapentakelaw07.DiskBegins', WHERE WHAT IT READS IS OF BULK AT MOST 1048576: true; the input reads as it did. -/
def diskBeginsUptoRow : OpenClaim := { program := "ytoecfgldnlglnaa", sum := "27f982e5661b20372b9ecee19793a1e292c4f8fa19715e4e89be83794c238433", func := "wapentake/wapentakelaw07.DiskBegins", spec := "diskBegins", inPlace := ["internal/abi.NoEscape", "internal/bytealg.MakeNoZero"], unfollowed := true, recurses := true, plainKeys := false, apart := false, narrowed := true }
def DiskBeginsUptoSaid : Prop := diskBeginsUptoRow.holds Try.pinned (OpenSpec.upto diskBeginsSpec)

/-- 'wapentakelaw07.DiskCounts', WHERE WHAT IT READS IS OF BULK AT MOST 1048576: true; the input reads as it did. -/
def diskCountsUptoRow : OpenClaim := { program := "ytoecfgldnlglnaa", sum := "27f982e5661b20372b9ecee19793a1e292c4f8fa19715e4e89be83794c238433", func := "wapentake/wapentakelaw07.DiskCounts", spec := "diskCounts", inPlace := ["internal/abi.NoEscape", "internal/bytealg.MakeNoZero"], unfollowed := true, recurses := true, plainKeys := false, apart := false, narrowed := true }
def DiskCountsUptoSaid : Prop := diskCountsUptoRow.holds Try.pinned (OpenSpec.upto diskCountsSpec)

/-- 'wapentakelaw07.DiskLasts', WHERE WHAT IT READS IS OF BULK AT MOST 1048576: true; the input reads as it did. -/
def diskLastsUptoRow : OpenClaim := { program := "ytoecfgldnlglnaa", sum := "27f982e5661b20372b9ecee19793a1e292c4f8fa19715e4e89be83794c238433", func := "wapentake/wapentakelaw07.DiskLasts", spec := "diskLasts", inPlace := ["internal/abi.NoEscape", "internal/bytealg.MakeNoZero"], unfollowed := true, recurses := true, plainKeys := false, apart := false, narrowed := true }
def DiskLastsUptoSaid : Prop := diskLastsUptoRow.holds Try.pinned (OpenSpec.upto diskLastsSpec)

/-- 'wapentakelaw07.DiskPlays', WHERE WHAT IT READS IS OF BULK AT MOST 1048576: true; the input reads as it did. -/
def diskPlaysUptoRow : OpenClaim := { program := "ytoecfgldnlglnaa", sum := "27f982e5661b20372b9ecee19793a1e292c4f8fa19715e4e89be83794c238433", func := "wapentake/wapentakelaw07.DiskPlays", spec := "diskPlays", inPlace := ["internal/abi.NoEscape", "internal/bytealg.MakeNoZero"], unfollowed := true, recurses := true, plainKeys := false, apart := false, narrowed := true }
def DiskPlaysUptoSaid : Prop := diskPlaysUptoRow.holds Try.pinned (OpenSpec.upto diskPlaysSpec)

/-- 'wapentakelaw07.DiskTwin', WHERE WHAT IT READS IS OF BULK AT MOST 1048576: true; the input reads as it did. -/
def diskTwinUptoRow : OpenClaim := { program := "ytoecfgldnlglnaa", sum := "27f982e5661b20372b9ecee19793a1e292c4f8fa19715e4e89be83794c238433", func := "wapentake/wapentakelaw07.DiskTwin", spec := "diskTwin", inPlace := ["internal/abi.NoEscape", "internal/bytealg.MakeNoZero"], unfollowed := true, recurses := true, plainKeys := false, apart := false, narrowed := true }
def DiskTwinUptoSaid : Prop := diskTwinUptoRow.holds Try.pinned (OpenSpec.upto diskTwinSpec)

/-- 'wapentakelaw20.CatBack', WHERE WHAT IT READS IS OF BULK AT MOST 1048576: true; the input reads as it did. -/
def catBackUptoRow : OpenClaim := { program := "ytoecfgldnlglnaa", sum := "27f982e5661b20372b9ecee19793a1e292c4f8fa19715e4e89be83794c238433", func := "wapentake/wapentakelaw20.CatBack", spec := "catBack", inPlace := ["internal/bytealg.Compare"], unfollowed := true, recurses := true, plainKeys := false, apart := false, narrowed := true }
def CatBackUptoSaid : Prop := catBackUptoRow.holds Try.pinned (OpenSpec.upto catBackSpec)

/-- 'wapentakelaw20.CatOne', WHERE WHAT IT READS IS OF BULK AT MOST 1048576: true; the input reads as it did. -/
def catOneUptoRow : OpenClaim := { program := "ytoecfgldnlglnaa", sum := "27f982e5661b20372b9ecee19793a1e292c4f8fa19715e4e89be83794c238433", func := "wapentake/wapentakelaw20.CatOne", spec := "catOne", inPlace := ["internal/bytealg.Compare"], unfollowed := true, recurses := true, plainKeys := false, apart := false, narrowed := true }
def CatOneUptoSaid : Prop := catOneUptoRow.holds Try.pinned (OpenSpec.upto catOneSpec)

/-- 'wapentakelaw20.CatPlays', WHERE WHAT IT READS IS OF BULK AT MOST 1048576: true; the input reads as it did. -/
def catPlaysUptoRow : OpenClaim := { program := "ytoecfgldnlglnaa", sum := "27f982e5661b20372b9ecee19793a1e292c4f8fa19715e4e89be83794c238433", func := "wapentake/wapentakelaw20.CatPlays", spec := "catPlays", inPlace := ["internal/bytealg.Compare"], unfollowed := true, recurses := true, plainKeys := false, apart := false, narrowed := true }
def CatPlaysUptoSaid : Prop := catPlaysUptoRow.holds Try.pinned (OpenSpec.upto catPlaysSpec)

/-- 'wapentakelaw20.CatReads', WHERE WHAT IT READS IS OF BULK AT MOST 1048576: true; the input reads as it did. -/
def catReadsUptoRow : OpenClaim := { program := "ytoecfgldnlglnaa", sum := "27f982e5661b20372b9ecee19793a1e292c4f8fa19715e4e89be83794c238433", func := "wapentake/wapentakelaw20.CatReads", spec := "catReads", inPlace := ["internal/bytealg.Compare"], unfollowed := true, recurses := true, plainKeys := false, apart := false, narrowed := true }
def CatReadsUptoSaid : Prop := catReadsUptoRow.holds Try.pinned (OpenSpec.upto catReadsSpec)

end Rows
end Go.Proofs.Ytoecfgldnlglnaa
