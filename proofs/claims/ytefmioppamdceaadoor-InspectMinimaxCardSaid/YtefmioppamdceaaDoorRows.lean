/-
  NARROWER THAN 'FOR EVERY INPUT', by the rows' own cells (each row's printed sentence says how): InspectDresher: laid · InspectLooks: laid · InspectMore: laid · InspectLeans: laid · InspectWorse: laid · InspectMinimax: laid · InspectTurned: laid.
  DERIVED. THE GIVEN ROWS OF THIS SEAT. 7 by the template 'for every input the law returns true; each argument reads behind the call as it read before'; 0 by the template 'total and deterministic' (their statements: YtefmioppamdceaaDoorTotals.lean).
  GIVEN WITH THE SEED: the statements are not yours to turn. If you find one false, say at which input.
  Laid BY PROGRAM, IN A SANDBOX (cutbox-rows.mjs): the forced cells as the released guide's own fill.sh prints them over the translation 17064857d00fc2de… (all of the seat's roots in one cut). By AI agents, Wed Nov 11 2026. No macro, syntax, notation, axiom, sorry.
-/
import Derived.Test.YtefmioppamdceaaDoorChecked
import GoSem.Claim
import GoSem.ClaimJoined
import GoSem.ClaimMapViews
import Derived.JoinedTies
import Derived.KernelRfl
namespace Go.Proofs.YtefmioppamdceaaDoor
/- THE CELL 'sum', in the pinned program and in every row, IS THE sha256 OF THE DUMP (.gsa) THAT YtefmioppamdceaaDoorProg.lean LOADS. Nothing in Lean hashes anything: it is a label: what it is worth is what the hold of that sum in a sandbox is worth. -/
noncomputable def Tryd.pinned : Pinned := { name := "ytefmioppamdceaadoor", sum := "17064857d00fc2de0f44e117f42c32dd8a61ea725b6004effdac79ca64a0dfa8", checked := Tryd.checked }
namespace Rows
def none {H : Type} : Left H := { results := [], args := [] }

/- WHAT THE LISTED PACKAGE-LEVEL VARIABLES READ AS WHEN THE CALL BEGINS. Each datum BY PROGRAM (the guide's laid-datum.mjs) off the statement by which the dump's own 'gosem.cut.vars' lays the variable. In a bare row this is a premise. The card (YtefmioppamdceaaDoorCards.lean) ties it to the program's text. -/
def laid_cocket_inspect_none {H : Type} : DataW H := .agg [.lit (.int .i64 0), .lit (.int .i64 1)]
def laid_cocket_inspect_one {H : Type} : DataW H := .agg [.lit (.int .i64 1), .lit (.int .i64 1)]
def laid_cocket_inspect_two {H : Type} : DataW H := .agg [.lit (.int .i64 2), .lit (.int .i64 1)]

/-- 'cocketlaw06.InspectDresher': WHATEVER THE INPUT: true; the input reads as it did. -/
def inspectDresherSpec : ChangeSpec := { name := "inspectDresher", fn := fun _ => fun
  | [d1, d2] => { results := [.lit (.bool true)], args := [d1, d2] }
  | _ => none }
def inspectDresherRow : OpenClaim := { program := "ytefmioppamdceaadoor", sum := "17064857d00fc2de0f44e117f42c32dd8a61ea725b6004effdac79ca64a0dfa8", func := "cocket/cocketlaw06.InspectDresher", spec := "inspectDresher", unfollowed := true, recurses := true, named := ["cocket/inspect.none", "cocket/inspect.one", "cocket/inspect.two"], plainKeys := false, apart := false, laid := [("cocket/inspect.none", laid_cocket_inspect_none), ("cocket/inspect.one", laid_cocket_inspect_one), ("cocket/inspect.two", laid_cocket_inspect_two)] }
def InspectDresherSaid : Prop := inspectDresherRow.holds Tryd.pinned (OpenSpec.ofChange inspectDresherSpec)

/-- ITS FALSE NEIGHBOUR: 'it returns false'. Refute it at one input. -/
def inspectDresherWrong : ChangeSpec := { name := "inspectDresher", fn := fun _ => fun
  | [d1, d2] => { results := [.lit (.bool false)], args := [d1, d2] }
  | _ => none }
def InspectDresherWrongFalsely : Prop := inspectDresherRow.holds Tryd.pinned (OpenSpec.ofChange inspectDresherWrong)

/-- 'cocketlaw06.InspectLooks': WHATEVER THE INPUT: true; the input reads as it did. -/
def inspectLooksSpec : ChangeSpec := { name := "inspectLooks", fn := fun _ => fun
  | [d1, d2, d3, d4] => { results := [.lit (.bool true)], args := [d1, d2, d3, d4] }
  | _ => none }
def inspectLooksRow : OpenClaim := { program := "ytefmioppamdceaadoor", sum := "17064857d00fc2de0f44e117f42c32dd8a61ea725b6004effdac79ca64a0dfa8", func := "cocket/cocketlaw06.InspectLooks", spec := "inspectLooks", unfollowed := true, recurses := true, named := ["cocket/inspect.none", "cocket/inspect.one", "cocket/inspect.two"], plainKeys := false, apart := false, laid := [("cocket/inspect.none", laid_cocket_inspect_none), ("cocket/inspect.one", laid_cocket_inspect_one), ("cocket/inspect.two", laid_cocket_inspect_two)] }
def InspectLooksSaid : Prop := inspectLooksRow.holds Tryd.pinned (OpenSpec.ofChange inspectLooksSpec)

/-- ITS FALSE NEIGHBOUR: 'it returns false'. Refute it at one input. -/
def inspectLooksWrong : ChangeSpec := { name := "inspectLooks", fn := fun _ => fun
  | [d1, d2, d3, d4] => { results := [.lit (.bool false)], args := [d1, d2, d3, d4] }
  | _ => none }
def InspectLooksWrongFalsely : Prop := inspectLooksRow.holds Tryd.pinned (OpenSpec.ofChange inspectLooksWrong)

/-- 'cocketlaw06.InspectMore': WHATEVER THE INPUT: true; the input reads as it did. -/
def inspectMoreSpec : ChangeSpec := { name := "inspectMore", fn := fun _ => fun
  | [d1, d2] => { results := [.lit (.bool true)], args := [d1, d2] }
  | _ => none }
def inspectMoreRow : OpenClaim := { program := "ytefmioppamdceaadoor", sum := "17064857d00fc2de0f44e117f42c32dd8a61ea725b6004effdac79ca64a0dfa8", func := "cocket/cocketlaw06.InspectMore", spec := "inspectMore", unfollowed := true, recurses := true, named := ["cocket/inspect.none", "cocket/inspect.one", "cocket/inspect.two"], plainKeys := false, apart := false, laid := [("cocket/inspect.none", laid_cocket_inspect_none), ("cocket/inspect.one", laid_cocket_inspect_one), ("cocket/inspect.two", laid_cocket_inspect_two)] }
def InspectMoreSaid : Prop := inspectMoreRow.holds Tryd.pinned (OpenSpec.ofChange inspectMoreSpec)

/-- ITS FALSE NEIGHBOUR: 'it returns false'. Refute it at one input. -/
def inspectMoreWrong : ChangeSpec := { name := "inspectMore", fn := fun _ => fun
  | [d1, d2] => { results := [.lit (.bool false)], args := [d1, d2] }
  | _ => none }
def InspectMoreWrongFalsely : Prop := inspectMoreRow.holds Tryd.pinned (OpenSpec.ofChange inspectMoreWrong)

/-- 'cocketlaw06.InspectLeans': WHATEVER THE INPUT: true; the input reads as it did. -/
def inspectLeansSpec : ChangeSpec := { name := "inspectLeans", fn := fun _ => fun
  | [d] => { results := [.lit (.bool true)], args := [d] }
  | _ => none }
def inspectLeansRow : OpenClaim := { program := "ytefmioppamdceaadoor", sum := "17064857d00fc2de0f44e117f42c32dd8a61ea725b6004effdac79ca64a0dfa8", func := "cocket/cocketlaw06.InspectLeans", spec := "inspectLeans", unfollowed := true, recurses := true, named := ["cocket/inspect.none", "cocket/inspect.one", "cocket/inspect.two"], plainKeys := false, apart := false, laid := [("cocket/inspect.none", laid_cocket_inspect_none), ("cocket/inspect.one", laid_cocket_inspect_one), ("cocket/inspect.two", laid_cocket_inspect_two)] }
def InspectLeansSaid : Prop := inspectLeansRow.holds Tryd.pinned (OpenSpec.ofChange inspectLeansSpec)

/-- ITS FALSE NEIGHBOUR: 'it returns false'. Refute it at one input. -/
def inspectLeansWrong : ChangeSpec := { name := "inspectLeans", fn := fun _ => fun
  | [d] => { results := [.lit (.bool false)], args := [d] }
  | _ => none }
def InspectLeansWrongFalsely : Prop := inspectLeansRow.holds Tryd.pinned (OpenSpec.ofChange inspectLeansWrong)

/-- 'cocketlaw06.InspectWorse': WHATEVER THE INPUT: true; the input reads as it did. -/
def inspectWorseSpec : ChangeSpec := { name := "inspectWorse", fn := fun _ => fun
  | [d] => { results := [.lit (.bool true)], args := [d] }
  | _ => none }
def inspectWorseRow : OpenClaim := { program := "ytefmioppamdceaadoor", sum := "17064857d00fc2de0f44e117f42c32dd8a61ea725b6004effdac79ca64a0dfa8", func := "cocket/cocketlaw06.InspectWorse", spec := "inspectWorse", unfollowed := true, recurses := true, named := ["cocket/inspect.none", "cocket/inspect.one", "cocket/inspect.two"], plainKeys := false, apart := false, laid := [("cocket/inspect.none", laid_cocket_inspect_none), ("cocket/inspect.one", laid_cocket_inspect_one), ("cocket/inspect.two", laid_cocket_inspect_two)] }
def InspectWorseSaid : Prop := inspectWorseRow.holds Tryd.pinned (OpenSpec.ofChange inspectWorseSpec)

/-- ITS FALSE NEIGHBOUR: 'it returns false'. Refute it at one input. -/
def inspectWorseWrong : ChangeSpec := { name := "inspectWorse", fn := fun _ => fun
  | [d] => { results := [.lit (.bool false)], args := [d] }
  | _ => none }
def InspectWorseWrongFalsely : Prop := inspectWorseRow.holds Tryd.pinned (OpenSpec.ofChange inspectWorseWrong)

/-- 'cocketlaw06.InspectMinimax': WHATEVER THE INPUT: true; the input reads as it did. -/
def inspectMinimaxSpec : ChangeSpec := { name := "inspectMinimax", fn := fun _ => fun
  | [d1, d2] => { results := [.lit (.bool true)], args := [d1, d2] }
  | _ => none }
def inspectMinimaxRow : OpenClaim := { program := "ytefmioppamdceaadoor", sum := "17064857d00fc2de0f44e117f42c32dd8a61ea725b6004effdac79ca64a0dfa8", func := "cocket/cocketlaw06.InspectMinimax", spec := "inspectMinimax", unfollowed := true, recurses := true, named := ["cocket/inspect.none", "cocket/inspect.one", "cocket/inspect.two"], plainKeys := false, apart := false, laid := [("cocket/inspect.none", laid_cocket_inspect_none), ("cocket/inspect.one", laid_cocket_inspect_one), ("cocket/inspect.two", laid_cocket_inspect_two)] }
def InspectMinimaxSaid : Prop := inspectMinimaxRow.holds Tryd.pinned (OpenSpec.ofChange inspectMinimaxSpec)

/-- ITS FALSE NEIGHBOUR: 'it returns false'. Refute it at one input. -/
def inspectMinimaxWrong : ChangeSpec := { name := "inspectMinimax", fn := fun _ => fun
  | [d1, d2] => { results := [.lit (.bool false)], args := [d1, d2] }
  | _ => none }
def InspectMinimaxWrongFalsely : Prop := inspectMinimaxRow.holds Tryd.pinned (OpenSpec.ofChange inspectMinimaxWrong)

/-- 'cocketlaw06.InspectTurned': WHATEVER THE INPUT: true; the input reads as it did. -/
def inspectTurnedSpec : ChangeSpec := { name := "inspectTurned", fn := fun _ => fun
  | [d] => { results := [.lit (.bool true)], args := [d] }
  | _ => none }
def inspectTurnedRow : OpenClaim := { program := "ytefmioppamdceaadoor", sum := "17064857d00fc2de0f44e117f42c32dd8a61ea725b6004effdac79ca64a0dfa8", func := "cocket/cocketlaw06.InspectTurned", spec := "inspectTurned", unfollowed := true, recurses := true, named := ["cocket/inspect.none", "cocket/inspect.one", "cocket/inspect.two"], plainKeys := false, apart := false, laid := [("cocket/inspect.none", laid_cocket_inspect_none), ("cocket/inspect.one", laid_cocket_inspect_one), ("cocket/inspect.two", laid_cocket_inspect_two)] }
def InspectTurnedSaid : Prop := inspectTurnedRow.holds Tryd.pinned (OpenSpec.ofChange inspectTurnedSpec)

/-- ITS FALSE NEIGHBOUR: 'it returns false'. Refute it at one input. -/
def inspectTurnedWrong : ChangeSpec := { name := "inspectTurned", fn := fun _ => fun
  | [d] => { results := [.lit (.bool false)], args := [d] }
  | _ => none }
def InspectTurnedWrongFalsely : Prop := inspectTurnedRow.holds Tryd.pinned (OpenSpec.ofChange inspectTurnedWrong)

/- THE SECOND FORM. 'bulk': how many values and letters a reading holds, each counted each time it is reached (what is shared counts as often as it is met; a slice's spare places count too). A statement '..UptoSaid' is the law's where the arguments, and the package variables that the reading takes, are together of bulk at most 1048576: NARROWER than '..Said'. Prove '..Said' where nothing that the law and all that it calls make is longer than what came in: it says more and counts as full. Else prove '..UptoSaid'. A law counts once. -/
mutual
def uptoBulk {H : Type} : DataW H → Nat
  | .lit (.string bytes) => bytes.length + 1
  | .lit _ => 1
  | .nil => 1
  | .ptr d => uptoBulk d + 1
  | .slice elems spare => uptoBulkAll elems + uptoBulkAll spare + 1
  | .agg parts => uptoBulkAll parts + 1
  | .iface _ d => uptoBulk d + 1
  | .map entries => uptoBulkEntries entries + 1
  | .held _ => 1
def uptoBulkAll {H : Type} : List (DataW H) → Nat
  | [] => 0
  | d :: r => uptoBulk d + uptoBulkAll r
def uptoBulkEntries {H : Type} : List (Lit × DataW H) → Nat
  | [] => 0
  | x :: r => uptoBulkEntry x + uptoBulkEntries r
def uptoBulkEntry {H : Type} : Lit × DataW H → Nat
  | (.string bytes, d) => bytes.length + uptoBulk d + 1
  | (_, d) => uptoBulk d + 1
 end
def uptoSmall : (H : Type) → List (DataW H) → Bool := fun _ ds => decide (uptoBulkAll ds ≤ 1048576)
def OpenSpec.upto (s : _root_.Go.ChangeSpec) : _root_.Go.OpenSpec := { _root_.Go.OpenSpec.ofChange s with cond := some uptoSmall }

/-- 'cocketlaw06.InspectDresher', WHERE WHAT IT READS IS OF BULK AT MOST 1048576: true; the input reads as it did. -/
def inspectDresherUptoRow : OpenClaim := { program := "ytefmioppamdceaadoor", sum := "17064857d00fc2de0f44e117f42c32dd8a61ea725b6004effdac79ca64a0dfa8", func := "cocket/cocketlaw06.InspectDresher", spec := "inspectDresher", unfollowed := true, recurses := true, named := ["cocket/inspect.none", "cocket/inspect.one", "cocket/inspect.two"], plainKeys := false, apart := false, laid := [("cocket/inspect.none", laid_cocket_inspect_none), ("cocket/inspect.one", laid_cocket_inspect_one), ("cocket/inspect.two", laid_cocket_inspect_two)], narrowed := true }
def InspectDresherUptoSaid : Prop := inspectDresherUptoRow.holds Tryd.pinned (OpenSpec.upto inspectDresherSpec)

/-- 'cocketlaw06.InspectLooks', WHERE WHAT IT READS IS OF BULK AT MOST 1048576: true; the input reads as it did. -/
def inspectLooksUptoRow : OpenClaim := { program := "ytefmioppamdceaadoor", sum := "17064857d00fc2de0f44e117f42c32dd8a61ea725b6004effdac79ca64a0dfa8", func := "cocket/cocketlaw06.InspectLooks", spec := "inspectLooks", unfollowed := true, recurses := true, named := ["cocket/inspect.none", "cocket/inspect.one", "cocket/inspect.two"], plainKeys := false, apart := false, laid := [("cocket/inspect.none", laid_cocket_inspect_none), ("cocket/inspect.one", laid_cocket_inspect_one), ("cocket/inspect.two", laid_cocket_inspect_two)], narrowed := true }
def InspectLooksUptoSaid : Prop := inspectLooksUptoRow.holds Tryd.pinned (OpenSpec.upto inspectLooksSpec)

/-- 'cocketlaw06.InspectMore', WHERE WHAT IT READS IS OF BULK AT MOST 1048576: true; the input reads as it did. -/
def inspectMoreUptoRow : OpenClaim := { program := "ytefmioppamdceaadoor", sum := "17064857d00fc2de0f44e117f42c32dd8a61ea725b6004effdac79ca64a0dfa8", func := "cocket/cocketlaw06.InspectMore", spec := "inspectMore", unfollowed := true, recurses := true, named := ["cocket/inspect.none", "cocket/inspect.one", "cocket/inspect.two"], plainKeys := false, apart := false, laid := [("cocket/inspect.none", laid_cocket_inspect_none), ("cocket/inspect.one", laid_cocket_inspect_one), ("cocket/inspect.two", laid_cocket_inspect_two)], narrowed := true }
def InspectMoreUptoSaid : Prop := inspectMoreUptoRow.holds Tryd.pinned (OpenSpec.upto inspectMoreSpec)

/-- 'cocketlaw06.InspectLeans', WHERE WHAT IT READS IS OF BULK AT MOST 1048576: true; the input reads as it did. -/
def inspectLeansUptoRow : OpenClaim := { program := "ytefmioppamdceaadoor", sum := "17064857d00fc2de0f44e117f42c32dd8a61ea725b6004effdac79ca64a0dfa8", func := "cocket/cocketlaw06.InspectLeans", spec := "inspectLeans", unfollowed := true, recurses := true, named := ["cocket/inspect.none", "cocket/inspect.one", "cocket/inspect.two"], plainKeys := false, apart := false, laid := [("cocket/inspect.none", laid_cocket_inspect_none), ("cocket/inspect.one", laid_cocket_inspect_one), ("cocket/inspect.two", laid_cocket_inspect_two)], narrowed := true }
def InspectLeansUptoSaid : Prop := inspectLeansUptoRow.holds Tryd.pinned (OpenSpec.upto inspectLeansSpec)

/-- 'cocketlaw06.InspectWorse', WHERE WHAT IT READS IS OF BULK AT MOST 1048576: true; the input reads as it did. -/
def inspectWorseUptoRow : OpenClaim := { program := "ytefmioppamdceaadoor", sum := "17064857d00fc2de0f44e117f42c32dd8a61ea725b6004effdac79ca64a0dfa8", func := "cocket/cocketlaw06.InspectWorse", spec := "inspectWorse", unfollowed := true, recurses := true, named := ["cocket/inspect.none", "cocket/inspect.one", "cocket/inspect.two"], plainKeys := false, apart := false, laid := [("cocket/inspect.none", laid_cocket_inspect_none), ("cocket/inspect.one", laid_cocket_inspect_one), ("cocket/inspect.two", laid_cocket_inspect_two)], narrowed := true }
def InspectWorseUptoSaid : Prop := inspectWorseUptoRow.holds Tryd.pinned (OpenSpec.upto inspectWorseSpec)

/-- 'cocketlaw06.InspectMinimax', WHERE WHAT IT READS IS OF BULK AT MOST 1048576: true; the input reads as it did. -/
def inspectMinimaxUptoRow : OpenClaim := { program := "ytefmioppamdceaadoor", sum := "17064857d00fc2de0f44e117f42c32dd8a61ea725b6004effdac79ca64a0dfa8", func := "cocket/cocketlaw06.InspectMinimax", spec := "inspectMinimax", unfollowed := true, recurses := true, named := ["cocket/inspect.none", "cocket/inspect.one", "cocket/inspect.two"], plainKeys := false, apart := false, laid := [("cocket/inspect.none", laid_cocket_inspect_none), ("cocket/inspect.one", laid_cocket_inspect_one), ("cocket/inspect.two", laid_cocket_inspect_two)], narrowed := true }
def InspectMinimaxUptoSaid : Prop := inspectMinimaxUptoRow.holds Tryd.pinned (OpenSpec.upto inspectMinimaxSpec)

/-- 'cocketlaw06.InspectTurned', WHERE WHAT IT READS IS OF BULK AT MOST 1048576: true; the input reads as it did. -/
def inspectTurnedUptoRow : OpenClaim := { program := "ytefmioppamdceaadoor", sum := "17064857d00fc2de0f44e117f42c32dd8a61ea725b6004effdac79ca64a0dfa8", func := "cocket/cocketlaw06.InspectTurned", spec := "inspectTurned", unfollowed := true, recurses := true, named := ["cocket/inspect.none", "cocket/inspect.one", "cocket/inspect.two"], plainKeys := false, apart := false, laid := [("cocket/inspect.none", laid_cocket_inspect_none), ("cocket/inspect.one", laid_cocket_inspect_one), ("cocket/inspect.two", laid_cocket_inspect_two)], narrowed := true }
def InspectTurnedUptoSaid : Prop := inspectTurnedUptoRow.holds Tryd.pinned (OpenSpec.upto inspectTurnedSpec)

end Rows
end Go.Proofs.YtefmioppamdceaaDoor
