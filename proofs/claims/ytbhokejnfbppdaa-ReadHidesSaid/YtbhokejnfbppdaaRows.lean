/-
  No cell of these rows narrows 'for every input' (looked for: loops, veiled, ifaces, maps, wideKeys, modest, calm, conditions, laid).
  DERIVED. THE GIVEN ROWS OF THIS SEAT. 4 by the template 'for every input the law returns true; each argument reads behind the call as it read before'; 0 by the template 'total and deterministic' (their statements: YtbhokejnfbppdaaTotals.lean).
  GIVEN WITH THE SEED: the statements are not yours to turn. If you find one false, say at which input.
  Laid BY PROGRAM, IN A SANDBOX (cutbox-rows.mjs): the forced cells as the released guide's own fill.sh prints them over the translation 10ff78e2e356f454… (all of the seat's roots in one cut). By AI agents, Wed Nov 11 2026. No macro, syntax, notation, axiom, sorry.
-/
import Derived.Test.YtbhokejnfbppdaaChecked
import GoSem.Claim
import GoSem.ClaimJoined
import GoSem.ClaimMapViews
import Derived.JoinedTies
import Derived.KernelRfl
namespace Go.Proofs.Ytbhokejnfbppdaa
/- THE CELL 'sum', in the pinned program and in every row, IS THE sha256 OF THE DUMP (.gsa) THAT YtbhokejnfbppdaaProg.lean LOADS. Nothing in Lean hashes anything: it is a label: what it is worth is what the hold of that sum in a sandbox is worth. -/
noncomputable def Try.pinned : Pinned := { name := "ytbhokejnfbppdaa", sum := "10ff78e2e356f454db916cee83c653b1a4886461eb364a405589d36dedd6def7", checked := Try.checked }
namespace Rows
def none {H : Type} : Left H := { results := [], args := [] }

/-- 'rovinglaw13.ReadOn': WHATEVER THE INPUT: true; the input reads as it did. -/
def readOnSpec : ChangeSpec := { name := "readOn", fn := fun _ => fun
  | [d1, d2] => { results := [.lit (.bool true)], args := [d1, d2] }
  | _ => none }
def readOnRow : OpenClaim := { program := "ytbhokejnfbppdaa", sum := "10ff78e2e356f454db916cee83c653b1a4886461eb364a405589d36dedd6def7", func := "roving/rovinglaw13.ReadOn", spec := "readOn", unfollowed := true, recurses := true, apart := false }
def ReadOnSaid : Prop := readOnRow.holds Try.pinned (OpenSpec.ofChange readOnSpec)

/-- ITS FALSE NEIGHBOUR: 'it returns false'. Refute it at one input. -/
def readOnWrong : ChangeSpec := { name := "readOn", fn := fun _ => fun
  | [d1, d2] => { results := [.lit (.bool false)], args := [d1, d2] }
  | _ => none }
def ReadOnWrongFalsely : Prop := readOnRow.holds Try.pinned (OpenSpec.ofChange readOnWrong)

/-- 'rovinglaw13.ReadHides': WHATEVER THE INPUT: true; the input reads as it did. -/
def readHidesSpec : ChangeSpec := { name := "readHides", fn := fun _ => fun
  | [d1, d2, d3, d4, d5] => { results := [.lit (.bool true)], args := [d1, d2, d3, d4, d5] }
  | _ => none }
def readHidesRow : OpenClaim := { program := "ytbhokejnfbppdaa", sum := "10ff78e2e356f454db916cee83c653b1a4886461eb364a405589d36dedd6def7", func := "roving/rovinglaw13.ReadHides", spec := "readHides", unfollowed := true, recurses := true, apart := false }
def ReadHidesSaid : Prop := readHidesRow.holds Try.pinned (OpenSpec.ofChange readHidesSpec)

/-- ITS FALSE NEIGHBOUR: 'it returns false'. Refute it at one input. -/
def readHidesWrong : ChangeSpec := { name := "readHides", fn := fun _ => fun
  | [d1, d2, d3, d4, d5] => { results := [.lit (.bool false)], args := [d1, d2, d3, d4, d5] }
  | _ => none }
def ReadHidesWrongFalsely : Prop := readHidesRow.holds Try.pinned (OpenSpec.ofChange readHidesWrong)

/-- 'rovinglaw13.ReadCuts': WHATEVER THE INPUT: true; the input reads as it did. -/
def readCutsSpec : ChangeSpec := { name := "readCuts", fn := fun _ => fun
  | [d1, d2, d3] => { results := [.lit (.bool true)], args := [d1, d2, d3] }
  | _ => none }
def readCutsRow : OpenClaim := { program := "ytbhokejnfbppdaa", sum := "10ff78e2e356f454db916cee83c653b1a4886461eb364a405589d36dedd6def7", func := "roving/rovinglaw13.ReadCuts", spec := "readCuts", unfollowed := true, recurses := true, apart := false }
def ReadCutsSaid : Prop := readCutsRow.holds Try.pinned (OpenSpec.ofChange readCutsSpec)

/-- ITS FALSE NEIGHBOUR: 'it returns false'. Refute it at one input. -/
def readCutsWrong : ChangeSpec := { name := "readCuts", fn := fun _ => fun
  | [d1, d2, d3] => { results := [.lit (.bool false)], args := [d1, d2, d3] }
  | _ => none }
def ReadCutsWrongFalsely : Prop := readCutsRow.holds Try.pinned (OpenSpec.ofChange readCutsWrong)

/-- 'rovinglaw13.ReadPlain': WHATEVER THE INPUT: true; the input reads as it did. -/
def readPlainSpec : ChangeSpec := { name := "readPlain", fn := fun _ => fun
  | [d] => { results := [.lit (.bool true)], args := [d] }
  | _ => none }
def readPlainRow : OpenClaim := { program := "ytbhokejnfbppdaa", sum := "10ff78e2e356f454db916cee83c653b1a4886461eb364a405589d36dedd6def7", func := "roving/rovinglaw13.ReadPlain", spec := "readPlain", unfollowed := true, recurses := true, apart := false }
def ReadPlainSaid : Prop := readPlainRow.holds Try.pinned (OpenSpec.ofChange readPlainSpec)

/-- ITS FALSE NEIGHBOUR: 'it returns false'. Refute it at one input. -/
def readPlainWrong : ChangeSpec := { name := "readPlain", fn := fun _ => fun
  | [d] => { results := [.lit (.bool false)], args := [d] }
  | _ => none }
def ReadPlainWrongFalsely : Prop := readPlainRow.holds Try.pinned (OpenSpec.ofChange readPlainWrong)

/- THE SECOND FORM. 'bulk': how many values and letters a reading holds, each counted each time it is reached (what is shared counts as often as it is met; a slice's spare places count too). A statement '..UptoSaid' is the law's where the arguments, and the package variables that the reading takes, are together of bulk at most 1048576: NARROWER than '..Said'. Prove '..Said' where nothing that the law and all that it calls make is longer than what came in: it says more and counts as full. Else prove '..UptoSaid'. A law counts once. -/
mutual
def uptoBulk {H : Type} : DataW H → Nat
  | .lit (.string bytes) => bytes.length + 1
  | .lit _ => 1
  | .nil => 1
  | .ptr d => uptoBulk d + 1
  | .slice elems spare => uptoBulkAll elems + uptoBulkAll spare + 1
  | .agg parts => uptoBulkAll parts + 1
  | .iface _ d => uptoBulk d + 1
  | .map entries => uptoBulkEntries entries + 1
  | .held _ => 1
def uptoBulkAll {H : Type} : List (DataW H) → Nat
  | [] => 0
  | d :: r => uptoBulk d + uptoBulkAll r
def uptoBulkEntries {H : Type} : List (Lit × DataW H) → Nat
  | [] => 0
  | x :: r => uptoBulkEntry x + uptoBulkEntries r
def uptoBulkEntry {H : Type} : Lit × DataW H → Nat
  | (.string bytes, d) => bytes.length + uptoBulk d + 1
  | (_, d) => uptoBulk d + 1
 end
def uptoSmall : (H : Type) → List (DataW H) → Bool := fun _ ds => decide (uptoBulkAll ds ≤ 1048576)
def OpenSpec.upto (s : _root_.Go.ChangeSpec) : _root_.Go.OpenSpec := { _root_.Go.OpenSpec.ofChange s with cond := some uptoSmall }

/-- 'rovinglaw13.ReadOn', WHERE WHAT IT READS IS OF BULK AT MOST 1048576: true; the input reads as it did. -/
def readOnUptoRow : OpenClaim := { program := "ytbhokejnfbppdaa", sum := "10ff78e2e356f454db916cee83c653b1a4886461eb364a405589d36dedd6def7", func := "roving/rovinglaw13.ReadOn", spec := "readOn", unfollowed := true, recurses := true, apart := false, narrowed := true }
def ReadOnUptoSaid : Prop := readOnUptoRow.holds Try.pinned (OpenSpec.upto readOnSpec)

/-- 'rovinglaw13.ReadHides', WHERE WHAT IT READS IS OF BULK AT MOST 1048576: true; the input reads as it did. -/
def readHidesUptoRow : OpenClaim := { program := "ytbhokejnfbppdaa", sum := "10ff78e2e356f454db916cee83c653b1a4886461eb364a405589d36dedd6def7", func := "roving/rovinglaw13.ReadHides", spec := "readHides", unfollowed := true, recurses := true, apart := false, narrowed := true }
def ReadHidesUptoSaid : Prop := readHidesUptoRow.holds Try.pinned (OpenSpec.upto readHidesSpec)

/-- 'rovinglaw13.ReadCuts', WHERE WHAT IT READS IS OF BULK AT MOST 1048576: true; the input reads as it did. -/
def readCutsUptoRow : OpenClaim := { program := "ytbhokejnfbppdaa", sum := "10ff78e2e356f454db916cee83c653b1a4886461eb364a405589d36dedd6def7", func := "roving/rovinglaw13.ReadCuts", spec := "readCuts", unfollowed := true, recurses := true, apart := false, narrowed := true }
def ReadCutsUptoSaid : Prop := readCutsUptoRow.holds Try.pinned (OpenSpec.upto readCutsSpec)

/-- 'rovinglaw13.ReadPlain', WHERE WHAT IT READS IS OF BULK AT MOST 1048576: true; the input reads as it did. -/
def readPlainUptoRow : OpenClaim := { program := "ytbhokejnfbppdaa", sum := "10ff78e2e356f454db916cee83c653b1a4886461eb364a405589d36dedd6def7", func := "roving/rovinglaw13.ReadPlain", spec := "readPlain", unfollowed := true, recurses := true, apart := false, narrowed := true }
def ReadPlainUptoSaid : Prop := readPlainUptoRow.holds Try.pinned (OpenSpec.upto readPlainSpec)

end Rows
end Go.Proofs.Ytbhokejnfbppdaa
