/-
  No cell of these rows narrows 'for every input' (looked for: loops, veiled, ifaces, maps, wideKeys, modest, calm, conditions, laid).
  DERIVED. THE GIVEN ROWS OF THIS SEAT. 16 by the template 'for every input the law returns true; each argument reads behind the call as it read before'; 0 by the template 'total and deterministic' (their statements: YtcngecibljgndaaTotals.lean).
  GIVEN WITH THE SEED: the statements are not yours to turn. If you find one false, say at which input.
  Laid BY PROGRAM, IN A SANDBOX (cutbox-rows.mjs): the forced cells as the released guide's own fill.sh prints them over the translation 75d863a706819ac7… (all of the seat's roots in one cut). By AI agents, Wed Nov 11 2026. No macro, syntax, notation, axiom, sorry.
-/
import Derived.Test.YtcngecibljgndaaChecked
import GoSem.Claim
import GoSem.ClaimJoined
import GoSem.ClaimMapViews
import Derived.JoinedTies
import Derived.KernelRfl
namespace Go.Proofs.Ytcngecibljgndaa
/- THE CELL 'sum', in the pinned program and in every row, IS THE sha256 OF THE DUMP (.gsa) THAT YtcngecibljgndaaProg.lean LOADS. Nothing in Lean hashes anything: it is a label: what it is worth is what the hold of that sum in a sandbox is worth. -/
noncomputable def Try.pinned : Pinned := { name := "ytcngecibljgndaa", sum := "75d863a706819ac7da5fc454aa8bdd9b062188d22c654cf7e826df7317747af2", checked := Try.checked }
namespace Rows
def none {H : Type} : Left H := { results := [], args := [] }

/-- 'cocketlaw05.QuotaShares': WHATEVER THE INPUT: true; the input reads as it did. -/
def quotaSharesSpec : ChangeSpec := { name := "quotaShares", fn := fun _ => fun
  | [d1, d2, d3] => { results := [.lit (.bool true)], args := [d1, d2, d3] }
  | _ => none }
def quotaSharesRow : OpenClaim := { program := "ytcngecibljgndaa", sum := "75d863a706819ac7da5fc454aa8bdd9b062188d22c654cf7e826df7317747af2", func := "cocket/cocketlaw05.QuotaShares", spec := "quotaShares", unfollowed := true, recurses := true, apart := false }
def QuotaSharesSaid : Prop := quotaSharesRow.holds Try.pinned (OpenSpec.ofChange quotaSharesSpec)

/-- ITS FALSE NEIGHBOUR: 'it returns false'. Refute it at one input. -/
def quotaSharesWrong : ChangeSpec := { name := "quotaShares", fn := fun _ => fun
  | [d1, d2, d3] => { results := [.lit (.bool false)], args := [d1, d2, d3] }
  | _ => none }
def QuotaSharesWrongFalsely : Prop := quotaSharesRow.holds Try.pinned (OpenSpec.ofChange quotaSharesWrong)

/-- 'cocketlaw05.QuotaNucleoli': WHATEVER THE INPUT: true; the input reads as it did. -/
def quotaNucleoliSpec : ChangeSpec := { name := "quotaNucleoli", fn := fun _ => fun
  | [d1, d2, d3] => { results := [.lit (.bool true)], args := [d1, d2, d3] }
  | _ => none }
def quotaNucleoliRow : OpenClaim := { program := "ytcngecibljgndaa", sum := "75d863a706819ac7da5fc454aa8bdd9b062188d22c654cf7e826df7317747af2", func := "cocket/cocketlaw05.QuotaNucleoli", spec := "quotaNucleoli", unfollowed := true, recurses := true, apart := false }
def QuotaNucleoliSaid : Prop := quotaNucleoliRow.holds Try.pinned (OpenSpec.ofChange quotaNucleoliSpec)

/-- ITS FALSE NEIGHBOUR: 'it returns false'. Refute it at one input. -/
def quotaNucleoliWrong : ChangeSpec := { name := "quotaNucleoli", fn := fun _ => fun
  | [d1, d2, d3] => { results := [.lit (.bool false)], args := [d1, d2, d3] }
  | _ => none }
def QuotaNucleoliWrongFalsely : Prop := quotaNucleoliRow.holds Try.pinned (OpenSpec.ofChange quotaNucleoliWrong)

/-- 'cocketlaw05.QuotaGrows': WHATEVER THE INPUT: true; the input reads as it did. -/
def quotaGrowsSpec : ChangeSpec := { name := "quotaGrows", fn := fun _ => fun
  | [d1, d2, d3, d4] => { results := [.lit (.bool true)], args := [d1, d2, d3, d4] }
  | _ => none }
def quotaGrowsRow : OpenClaim := { program := "ytcngecibljgndaa", sum := "75d863a706819ac7da5fc454aa8bdd9b062188d22c654cf7e826df7317747af2", func := "cocket/cocketlaw05.QuotaGrows", spec := "quotaGrows", unfollowed := true, recurses := true, apart := false }
def QuotaGrowsSaid : Prop := quotaGrowsRow.holds Try.pinned (OpenSpec.ofChange quotaGrowsSpec)

/-- ITS FALSE NEIGHBOUR: 'it returns false'. Refute it at one input. -/
def quotaGrowsWrong : ChangeSpec := { name := "quotaGrows", fn := fun _ => fun
  | [d1, d2, d3, d4] => { results := [.lit (.bool false)], args := [d1, d2, d3, d4] }
  | _ => none }
def QuotaGrowsWrongFalsely : Prop := quotaGrowsRow.holds Try.pinned (OpenSpec.ofChange quotaGrowsWrong)

/-- 'cocketlaw05.QuotaDuals': WHATEVER THE INPUT: true; the input reads as it did. -/
def quotaDualsSpec : ChangeSpec := { name := "quotaDuals", fn := fun _ => fun
  | [d1, d2, d3] => { results := [.lit (.bool true)], args := [d1, d2, d3] }
  | _ => none }
def quotaDualsRow : OpenClaim := { program := "ytcngecibljgndaa", sum := "75d863a706819ac7da5fc454aa8bdd9b062188d22c654cf7e826df7317747af2", func := "cocket/cocketlaw05.QuotaDuals", spec := "quotaDuals", unfollowed := true, recurses := true, apart := false }
def QuotaDualsSaid : Prop := quotaDualsRow.holds Try.pinned (OpenSpec.ofChange quotaDualsSpec)

/-- ITS FALSE NEIGHBOUR: 'it returns false'. Refute it at one input. -/
def quotaDualsWrong : ChangeSpec := { name := "quotaDuals", fn := fun _ => fun
  | [d1, d2, d3] => { results := [.lit (.bool false)], args := [d1, d2, d3] }
  | _ => none }
def QuotaDualsWrongFalsely : Prop := quotaDualsRow.holds Try.pinned (OpenSpec.ofChange quotaDualsWrong)

/-- 'cocketlaw05.QuotaLeaves': WHATEVER THE INPUT: true; the input reads as it did. -/
def quotaLeavesSpec : ChangeSpec := { name := "quotaLeaves", fn := fun _ => fun
  | [d1, d2, d3, d4] => { results := [.lit (.bool true)], args := [d1, d2, d3, d4] }
  | _ => none }
def quotaLeavesRow : OpenClaim := { program := "ytcngecibljgndaa", sum := "75d863a706819ac7da5fc454aa8bdd9b062188d22c654cf7e826df7317747af2", func := "cocket/cocketlaw05.QuotaLeaves", spec := "quotaLeaves", unfollowed := true, recurses := true, apart := false }
def QuotaLeavesSaid : Prop := quotaLeavesRow.holds Try.pinned (OpenSpec.ofChange quotaLeavesSpec)

/-- ITS FALSE NEIGHBOUR: 'it returns false'. Refute it at one input. -/
def quotaLeavesWrong : ChangeSpec := { name := "quotaLeaves", fn := fun _ => fun
  | [d1, d2, d3, d4] => { results := [.lit (.bool false)], args := [d1, d2, d3, d4] }
  | _ => none }
def QuotaLeavesWrongFalsely : Prop := quotaLeavesRow.holds Try.pinned (OpenSpec.ofChange quotaLeavesWrong)

/-- 'cocketlaw05.QuotaIs': WHATEVER THE INPUT: true; the input reads as it did. -/
def quotaIsSpec : ChangeSpec := { name := "quotaIs", fn := fun _ => fun
  | [d1, d2, d3] => { results := [.lit (.bool true)], args := [d1, d2, d3] }
  | _ => none }
def quotaIsRow : OpenClaim := { program := "ytcngecibljgndaa", sum := "75d863a706819ac7da5fc454aa8bdd9b062188d22c654cf7e826df7317747af2", func := "cocket/cocketlaw05.QuotaIs", spec := "quotaIs", unfollowed := true, recurses := true, apart := false }
def QuotaIsSaid : Prop := quotaIsRow.holds Try.pinned (OpenSpec.ofChange quotaIsSpec)

/-- ITS FALSE NEIGHBOUR: 'it returns false'. Refute it at one input. -/
def quotaIsWrong : ChangeSpec := { name := "quotaIs", fn := fun _ => fun
  | [d1, d2, d3] => { results := [.lit (.bool false)], args := [d1, d2, d3] }
  | _ => none }
def QuotaIsWrongFalsely : Prop := quotaIsRow.holds Try.pinned (OpenSpec.ofChange quotaIsWrong)

/-- 'cocketlaw05.QuotaRules': WHATEVER THE INPUT: true; the input reads as it did. -/
def quotaRulesSpec : ChangeSpec := { name := "quotaRules", fn := fun _ => fun
  | [d1, d2, d3] => { results := [.lit (.bool true)], args := [d1, d2, d3] }
  | _ => none }
def quotaRulesRow : OpenClaim := { program := "ytcngecibljgndaa", sum := "75d863a706819ac7da5fc454aa8bdd9b062188d22c654cf7e826df7317747af2", func := "cocket/cocketlaw05.QuotaRules", spec := "quotaRules", unfollowed := true, recurses := true, apart := false }
def QuotaRulesSaid : Prop := quotaRulesRow.holds Try.pinned (OpenSpec.ofChange quotaRulesSpec)

/-- ITS FALSE NEIGHBOUR: 'it returns false'. Refute it at one input. -/
def quotaRulesWrong : ChangeSpec := { name := "quotaRules", fn := fun _ => fun
  | [d1, d2, d3] => { results := [.lit (.bool false)], args := [d1, d2, d3] }
  | _ => none }
def QuotaRulesWrongFalsely : Prop := quotaRulesRow.holds Try.pinned (OpenSpec.ofChange quotaRulesWrong)

/-- 'cocketlaw05.QuotaCore': WHATEVER THE INPUT: true; the input reads as it did. -/
def quotaCoreSpec : ChangeSpec := { name := "quotaCore", fn := fun _ => fun
  | [d1, d2, d3] => { results := [.lit (.bool true)], args := [d1, d2, d3] }
  | _ => none }
def quotaCoreRow : OpenClaim := { program := "ytcngecibljgndaa", sum := "75d863a706819ac7da5fc454aa8bdd9b062188d22c654cf7e826df7317747af2", func := "cocket/cocketlaw05.QuotaCore", spec := "quotaCore", unfollowed := true, recurses := true, apart := false }
def QuotaCoreSaid : Prop := quotaCoreRow.holds Try.pinned (OpenSpec.ofChange quotaCoreSpec)

/-- ITS FALSE NEIGHBOUR: 'it returns false'. Refute it at one input. -/
def quotaCoreWrong : ChangeSpec := { name := "quotaCore", fn := fun _ => fun
  | [d1, d2, d3] => { results := [.lit (.bool false)], args := [d1, d2, d3] }
  | _ => none }
def QuotaCoreWrongFalsely : Prop := quotaCoreRow.holds Try.pinned (OpenSpec.ofChange quotaCoreWrong)

/-- 'cocketlaw05.QuotaShapley': WHATEVER THE INPUT: true; the input reads as it did. -/
def quotaShapleySpec : ChangeSpec := { name := "quotaShapley", fn := fun _ => fun
  | [d1, d2] => { results := [.lit (.bool true)], args := [d1, d2] }
  | _ => none }
def quotaShapleyRow : OpenClaim := { program := "ytcngecibljgndaa", sum := "75d863a706819ac7da5fc454aa8bdd9b062188d22c654cf7e826df7317747af2", func := "cocket/cocketlaw05.QuotaShapley", spec := "quotaShapley", unfollowed := true, recurses := true, apart := false }
def QuotaShapleySaid : Prop := quotaShapleyRow.holds Try.pinned (OpenSpec.ofChange quotaShapleySpec)

/-- ITS FALSE NEIGHBOUR: 'it returns false'. Refute it at one input. -/
def quotaShapleyWrong : ChangeSpec := { name := "quotaShapley", fn := fun _ => fun
  | [d1, d2] => { results := [.lit (.bool false)], args := [d1, d2] }
  | _ => none }
def QuotaShapleyWrongFalsely : Prop := quotaShapleyRow.holds Try.pinned (OpenSpec.ofChange quotaShapleyWrong)

/-- 'cocketlaw05.QuotaContests': WHATEVER THE INPUT: true; the input reads as it did. -/
def quotaContestsSpec : ChangeSpec := { name := "quotaContests", fn := fun _ => fun
  | [d1, d2, d3] => { results := [.lit (.bool true)], args := [d1, d2, d3] }
  | _ => none }
def quotaContestsRow : OpenClaim := { program := "ytcngecibljgndaa", sum := "75d863a706819ac7da5fc454aa8bdd9b062188d22c654cf7e826df7317747af2", func := "cocket/cocketlaw05.QuotaContests", spec := "quotaContests", unfollowed := true, recurses := true, apart := false }
def QuotaContestsSaid : Prop := quotaContestsRow.holds Try.pinned (OpenSpec.ofChange quotaContestsSpec)

/-- ITS FALSE NEIGHBOUR: 'it returns false'. Refute it at one input. -/
def quotaContestsWrong : ChangeSpec := { name := "quotaContests", fn := fun _ => fun
  | [d1, d2, d3] => { results := [.lit (.bool false)], args := [d1, d2, d3] }
  | _ => none }
def QuotaContestsWrongFalsely : Prop := quotaContestsRow.holds Try.pinned (OpenSpec.ofChange quotaContestsWrong)

/-- 'cocketlaw05.QuotaFair': WHATEVER THE INPUT: true; the input reads as it did. -/
def quotaFairSpec : ChangeSpec := { name := "quotaFair", fn := fun _ => fun
  | [d1, d2, d3] => { results := [.lit (.bool true)], args := [d1, d2, d3] }
  | _ => none }
def quotaFairRow : OpenClaim := { program := "ytcngecibljgndaa", sum := "75d863a706819ac7da5fc454aa8bdd9b062188d22c654cf7e826df7317747af2", func := "cocket/cocketlaw05.QuotaFair", spec := "quotaFair", unfollowed := true, recurses := true, apart := false }
def QuotaFairSaid : Prop := quotaFairRow.holds Try.pinned (OpenSpec.ofChange quotaFairSpec)

/-- ITS FALSE NEIGHBOUR: 'it returns false'. Refute it at one input. -/
def quotaFairWrong : ChangeSpec := { name := "quotaFair", fn := fun _ => fun
  | [d1, d2, d3] => { results := [.lit (.bool false)], args := [d1, d2, d3] }
  | _ => none }
def QuotaFairWrongFalsely : Prop := quotaFairRow.holds Try.pinned (OpenSpec.ofChange quotaFairWrong)

/-- 'cocketlaw05.QuotaBalanced': WHATEVER THE INPUT: true; the input reads as it did. -/
def quotaBalancedSpec : ChangeSpec := { name := "quotaBalanced", fn := fun _ => fun
  | [d1, d2] => { results := [.lit (.bool true)], args := [d1, d2] }
  | _ => none }
def quotaBalancedRow : OpenClaim := { program := "ytcngecibljgndaa", sum := "75d863a706819ac7da5fc454aa8bdd9b062188d22c654cf7e826df7317747af2", func := "cocket/cocketlaw05.QuotaBalanced", spec := "quotaBalanced", unfollowed := true, recurses := true, apart := false }
def QuotaBalancedSaid : Prop := quotaBalancedRow.holds Try.pinned (OpenSpec.ofChange quotaBalancedSpec)

/-- ITS FALSE NEIGHBOUR: 'it returns false'. Refute it at one input. -/
def quotaBalancedWrong : ChangeSpec := { name := "quotaBalanced", fn := fun _ => fun
  | [d1, d2] => { results := [.lit (.bool false)], args := [d1, d2] }
  | _ => none }
def QuotaBalancedWrongFalsely : Prop := quotaBalancedRow.holds Try.pinned (OpenSpec.ofChange quotaBalancedWrong)

/-- 'cocketlaw05.QuotaTalmud': WHATEVER THE INPUT: true; the input reads as it did. -/
def quotaTalmudSpec : ChangeSpec := { name := "quotaTalmud", fn := fun _ => fun
  | [d1, d2, d3] => { results := [.lit (.bool true)], args := [d1, d2, d3] }
  | _ => none }
def quotaTalmudRow : OpenClaim := { program := "ytcngecibljgndaa", sum := "75d863a706819ac7da5fc454aa8bdd9b062188d22c654cf7e826df7317747af2", func := "cocket/cocketlaw05.QuotaTalmud", spec := "quotaTalmud", unfollowed := true, recurses := true, apart := false }
def QuotaTalmudSaid : Prop := quotaTalmudRow.holds Try.pinned (OpenSpec.ofChange quotaTalmudSpec)

/-- ITS FALSE NEIGHBOUR: 'it returns false'. Refute it at one input. -/
def quotaTalmudWrong : ChangeSpec := { name := "quotaTalmud", fn := fun _ => fun
  | [d1, d2, d3] => { results := [.lit (.bool false)], args := [d1, d2, d3] }
  | _ => none }
def QuotaTalmudWrongFalsely : Prop := quotaTalmudRow.holds Try.pinned (OpenSpec.ofChange quotaTalmudWrong)

/-- 'cocketlaw05.QuotaLeast': WHATEVER THE INPUT: true; the input reads as it did. -/
def quotaLeastSpec : ChangeSpec := { name := "quotaLeast", fn := fun _ => fun
  | [d1, d2, d3] => { results := [.lit (.bool true)], args := [d1, d2, d3] }
  | _ => none }
def quotaLeastRow : OpenClaim := { program := "ytcngecibljgndaa", sum := "75d863a706819ac7da5fc454aa8bdd9b062188d22c654cf7e826df7317747af2", func := "cocket/cocketlaw05.QuotaLeast", spec := "quotaLeast", unfollowed := true, recurses := true, apart := false }
def QuotaLeastSaid : Prop := quotaLeastRow.holds Try.pinned (OpenSpec.ofChange quotaLeastSpec)

/-- ITS FALSE NEIGHBOUR: 'it returns false'. Refute it at one input. -/
def quotaLeastWrong : ChangeSpec := { name := "quotaLeast", fn := fun _ => fun
  | [d1, d2, d3] => { results := [.lit (.bool false)], args := [d1, d2, d3] }
  | _ => none }
def QuotaLeastWrongFalsely : Prop := quotaLeastRow.holds Try.pinned (OpenSpec.ofChange quotaLeastWrong)

/-- 'cocketlaw05.QuotaGames': WHATEVER THE INPUT: true; the input reads as it did. -/
def quotaGamesSpec : ChangeSpec := { name := "quotaGames", fn := fun _ => fun
  | [d1, d2, d3] => { results := [.lit (.bool true)], args := [d1, d2, d3] }
  | _ => none }
def quotaGamesRow : OpenClaim := { program := "ytcngecibljgndaa", sum := "75d863a706819ac7da5fc454aa8bdd9b062188d22c654cf7e826df7317747af2", func := "cocket/cocketlaw05.QuotaGames", spec := "quotaGames", unfollowed := true, recurses := true, apart := false }
def QuotaGamesSaid : Prop := quotaGamesRow.holds Try.pinned (OpenSpec.ofChange quotaGamesSpec)

/-- ITS FALSE NEIGHBOUR: 'it returns false'. Refute it at one input. -/
def quotaGamesWrong : ChangeSpec := { name := "quotaGames", fn := fun _ => fun
  | [d1, d2, d3] => { results := [.lit (.bool false)], args := [d1, d2, d3] }
  | _ => none }
def QuotaGamesWrongFalsely : Prop := quotaGamesRow.holds Try.pinned (OpenSpec.ofChange quotaGamesWrong)

/-- 'cocketlaw05.QuotaKohlberg': WHATEVER THE INPUT: true; the input reads as it did. -/
def quotaKohlbergSpec : ChangeSpec := { name := "quotaKohlberg", fn := fun _ => fun
  | [d1, d2, d3] => { results := [.lit (.bool true)], args := [d1, d2, d3] }
  | _ => none }
def quotaKohlbergRow : OpenClaim := { program := "ytcngecibljgndaa", sum := "75d863a706819ac7da5fc454aa8bdd9b062188d22c654cf7e826df7317747af2", func := "cocket/cocketlaw05.QuotaKohlberg", spec := "quotaKohlberg", unfollowed := true, recurses := true, apart := false }
def QuotaKohlbergSaid : Prop := quotaKohlbergRow.holds Try.pinned (OpenSpec.ofChange quotaKohlbergSpec)

/-- ITS FALSE NEIGHBOUR: 'it returns false'. Refute it at one input. -/
def quotaKohlbergWrong : ChangeSpec := { name := "quotaKohlberg", fn := fun _ => fun
  | [d1, d2, d3] => { results := [.lit (.bool false)], args := [d1, d2, d3] }
  | _ => none }
def QuotaKohlbergWrongFalsely : Prop := quotaKohlbergRow.holds Try.pinned (OpenSpec.ofChange quotaKohlbergWrong)

/- THE SECOND FORM. 'bulk': how many values and letters a reading holds, each counted each time it is reached (what is shared counts as often as it is met; a slice's spare places count too). A statement '..UptoSaid' is the law's where the arguments, and the package variables that the reading takes, are together of bulk at most 1048576: NARROWER than '..Said'. Prove '..Said' where nothing that the law and all that it calls make is longer than what came in: it says more and counts as full. Else prove '..UptoSaid'. A law counts once. -/
mutual
def uptoBulk {H : Type} : DataW H → Nat
  | .lit (.string bytes) => bytes.length + 1
  | .lit _ => 1
  | .nil => 1
  | .ptr d => uptoBulk d + 1
  | .slice elems spare => uptoBulkAll elems + uptoBulkAll spare + 1
  | .agg parts => uptoBulkAll parts + 1
  | .iface _ d => uptoBulk d + 1
  | .map entries => uptoBulkEntries entries + 1
  | .held _ => 1
def uptoBulkAll {H : Type} : List (DataW H) → Nat
  | [] => 0
  | d :: r => uptoBulk d + uptoBulkAll r
def uptoBulkEntries {H : Type} : List (Lit × DataW H) → Nat
  | [] => 0
  | x :: r => uptoBulkEntry x + uptoBulkEntries r
def uptoBulkEntry {H : Type} : Lit × DataW H → Nat
  | (.string bytes, d) => bytes.length + uptoBulk d + 1
  | (_, d) => uptoBulk d + 1
 end
def uptoSmall : (H : Type) → List (DataW H) → Bool := fun _ ds => decide (uptoBulkAll ds ≤ 1048576)
def OpenSpec.upto (s : _root_.Go.ChangeSpec) : _root_.Go.OpenSpec := { _root_.Go.OpenSpec.ofChange s with cond := some uptoSmall }

/-- 'cocketlaw05.QuotaShares', WHERE WHAT IT READS IS OF BULK AT MOST 1048576: true; the input reads as it did. -/
def quotaSharesUptoRow : OpenClaim := { program := "ytcngecibljgndaa", sum := "75d863a706819ac7da5fc454aa8bdd9b062188d22c654cf7e826df7317747af2", func := "cocket/cocketlaw05.QuotaShares", spec := "quotaShares", unfollowed := true, recurses := true, apart := false, narrowed := true }
def QuotaSharesUptoSaid : Prop := quotaSharesUptoRow.holds Try.pinned (OpenSpec.upto quotaSharesSpec)

/-- 'cocketlaw05.QuotaNucleoli', WHERE WHAT IT READS IS OF BULK AT MOST 1048576: true; the input reads as it did. -/
def quotaNucleoliUptoRow : OpenClaim := { program := "ytcngecibljgndaa", sum := "75d863a706819ac7da5fc454aa8bdd9b062188d22c654cf7e826df7317747af2", func := "cocket/cocketlaw05.QuotaNucleoli", spec := "quotaNucleoli", unfollowed := true, recurses := true, apart := false, narrowed := true }
def QuotaNucleoliUptoSaid : Prop := quotaNucleoliUptoRow.holds Try.pinned (OpenSpec.upto quotaNucleoliSpec)

/-- 'cocketlaw05.QuotaGrows', WHERE WHAT IT READS IS OF BULK AT MOST 1048576: true; the input reads as it did. -/
def quotaGrowsUptoRow : OpenClaim := { program := "ytcngecibljgndaa", sum := "75d863a706819ac7da5fc454aa8bdd9b062188d22c654cf7e826df7317747af2", func := "cocket/cocketlaw05.QuotaGrows", spec := "quotaGrows", unfollowed := true, recurses := true, apart := false, narrowed := true }
def QuotaGrowsUptoSaid : Prop := quotaGrowsUptoRow.holds Try.pinned (OpenSpec.upto quotaGrowsSpec)

/-- 'cocketlaw05.QuotaDuals', WHERE WHAT IT READS IS OF BULK AT MOST 1048576: true; the input reads as it did. -/
def quotaDualsUptoRow : OpenClaim := { program := "ytcngecibljgndaa", sum := "75d863a706819ac7da5fc454aa8bdd9b062188d22c654cf7e826df7317747af2", func := "cocket/cocketlaw05.QuotaDuals", spec := "quotaDuals", unfollowed := true, recurses := true, apart := false, narrowed := true }
def QuotaDualsUptoSaid : Prop := quotaDualsUptoRow.holds Try.pinned (OpenSpec.upto quotaDualsSpec)

/-- 'cocketlaw05.QuotaLeaves', WHERE WHAT IT READS IS OF BULK AT MOST 1048576: true; the input reads as it did. -/
def quotaLeavesUptoRow : OpenClaim := { program := "ytcngecibljgndaa", sum := "75d863a706819ac7da5fc454aa8bdd9b062188d22c654cf7e826df7317747af2", func := "cocket/cocketlaw05.QuotaLeaves", spec := "quotaLeaves", unfollowed := true, recurses := true, apart := false, narrowed := true }
def QuotaLeavesUptoSaid : Prop := quotaLeavesUptoRow.holds Try.pinned (OpenSpec.upto quotaLeavesSpec)

/-- 'cocketlaw05.QuotaIs', WHERE WHAT IT READS IS OF BULK AT MOST 1048576: true; the input reads as it did. -/
def quotaIsUptoRow : OpenClaim := { program := "ytcngecibljgndaa", sum := "75d863a706819ac7da5fc454aa8bdd9b062188d22c654cf7e826df7317747af2", func := "cocket/cocketlaw05.QuotaIs", spec := "quotaIs", unfollowed := true, recurses := true, apart := false, narrowed := true }
def QuotaIsUptoSaid : Prop := quotaIsUptoRow.holds Try.pinned (OpenSpec.upto quotaIsSpec)

/-- 'cocketlaw05.QuotaRules', WHERE WHAT IT READS IS OF BULK AT MOST 1048576: true; the input reads as it did. -/
def quotaRulesUptoRow : OpenClaim := { program := "ytcngecibljgndaa", sum := "75d863a706819ac7da5fc454aa8bdd9b062188d22c654cf7e826df7317747af2", func := "cocket/cocketlaw05.QuotaRules", spec := "quotaRules", unfollowed := true, recurses := true, apart := false, narrowed := true }
def QuotaRulesUptoSaid : Prop := quotaRulesUptoRow.holds Try.pinned (OpenSpec.upto quotaRulesSpec)

/-- 'cocketlaw05.QuotaCore', WHERE WHAT IT READS IS OF BULK AT MOST 1048576: true; the input reads as it did. -/
def quotaCoreUptoRow : OpenClaim := { program := "ytcngecibljgndaa", sum := "75d863a706819ac7da5fc454aa8bdd9b062188d22c654cf7e826df7317747af2", func := "cocket/cocketlaw05.QuotaCore", spec := "quotaCore", unfollowed := true, recurses := true, apart := false, narrowed := true }
def QuotaCoreUptoSaid : Prop := quotaCoreUptoRow.holds Try.pinned (OpenSpec.upto quotaCoreSpec)

/-- 'cocketlaw05.QuotaShapley', WHERE WHAT IT READS IS OF BULK AT MOST 1048576: true; the input reads as it did. -/
def quotaShapleyUptoRow : OpenClaim := { program := "ytcngecibljgndaa", sum := "75d863a706819ac7da5fc454aa8bdd9b062188d22c654cf7e826df7317747af2", func := "cocket/cocketlaw05.QuotaShapley", spec := "quotaShapley", unfollowed := true, recurses := true, apart := false, narrowed := true }
def QuotaShapleyUptoSaid : Prop := quotaShapleyUptoRow.holds Try.pinned (OpenSpec.upto quotaShapleySpec)

/-- 'cocketlaw05.QuotaContests', WHERE WHAT IT READS IS OF BULK AT MOST 1048576: true; the input reads as it did. -/
def quotaContestsUptoRow : OpenClaim := { program := "ytcngecibljgndaa", sum := "75d863a706819ac7da5fc454aa8bdd9b062188d22c654cf7e826df7317747af2", func := "cocket/cocketlaw05.QuotaContests", spec := "quotaContests", unfollowed := true, recurses := true, apart := false, narrowed := true }
def QuotaContestsUptoSaid : Prop := quotaContestsUptoRow.holds Try.pinned (OpenSpec.upto quotaContestsSpec)

/-- 'cocketlaw05.QuotaFair', WHERE WHAT IT READS IS OF BULK AT MOST 1048576: true; the input reads as it did. -/
def quotaFairUptoRow : OpenClaim := { program := "ytcngecibljgndaa", sum := "75d863a706819ac7da5fc454aa8bdd9b062188d22c654cf7e826df7317747af2", func := "cocket/cocketlaw05.QuotaFair", spec := "quotaFair", unfollowed := true, recurses := true, apart := false, narrowed := true }
def QuotaFairUptoSaid : Prop := quotaFairUptoRow.holds Try.pinned (OpenSpec.upto quotaFairSpec)

/-- 'cocketlaw05.QuotaBalanced', WHERE WHAT IT READS IS OF BULK AT MOST 1048576: true; the input reads as it did. -/
def quotaBalancedUptoRow : OpenClaim := { program := "ytcngecibljgndaa", sum := "75d863a706819ac7da5fc454aa8bdd9b062188d22c654cf7e826df7317747af2", func := "cocket/cocketlaw05.QuotaBalanced", spec := "quotaBalanced", unfollowed := true, recurses := true, apart := false, narrowed := true }
def QuotaBalancedUptoSaid : Prop := quotaBalancedUptoRow.holds Try.pinned (OpenSpec.upto quotaBalancedSpec)

/-- 'cocketlaw05.QuotaTalmud', WHERE WHAT IT READS IS OF BULK AT MOST 1048576: true; the input reads as it did. -/
def quotaTalmudUptoRow : OpenClaim := { program := "ytcngecibljgndaa", sum := "75d863a706819ac7da5fc454aa8bdd9b062188d22c654cf7e826df7317747af2", func := "cocket/cocketlaw05.QuotaTalmud", spec := "quotaTalmud", unfollowed := true, recurses := true, apart := false, narrowed := true }
def QuotaTalmudUptoSaid : Prop := quotaTalmudUptoRow.holds Try.pinned (OpenSpec.upto quotaTalmudSpec)

/-- 'cocketlaw05.QuotaLeast', WHERE WHAT IT READS IS OF BULK AT MOST 1048576: true; the input reads as it did. -/
def quotaLeastUptoRow : OpenClaim := { program := "ytcngecibljgndaa", sum := "75d863a706819ac7da5fc454aa8bdd9b062188d22c654cf7e826df7317747af2", func := "cocket/cocketlaw05.QuotaLeast", spec := "quotaLeast", unfollowed := true, recurses := true, apart := false, narrowed := true }
def QuotaLeastUptoSaid : Prop := quotaLeastUptoRow.holds Try.pinned (OpenSpec.upto quotaLeastSpec)

/-- 'cocketlaw05.QuotaGames', WHERE WHAT IT READS IS OF BULK AT MOST 1048576: true; the input reads as it did. -/
def quotaGamesUptoRow : OpenClaim := { program := "ytcngecibljgndaa", sum := "75d863a706819ac7da5fc454aa8bdd9b062188d22c654cf7e826df7317747af2", func := "cocket/cocketlaw05.QuotaGames", spec := "quotaGames", unfollowed := true, recurses := true, apart := false, narrowed := true }
def QuotaGamesUptoSaid : Prop := quotaGamesUptoRow.holds Try.pinned (OpenSpec.upto quotaGamesSpec)

/-- 'cocketlaw05.QuotaKohlberg', WHERE WHAT IT READS IS OF BULK AT MOST 1048576: true; the input reads as it did. -/
def quotaKohlbergUptoRow : OpenClaim := { program := "ytcngecibljgndaa", sum := "75d863a706819ac7da5fc454aa8bdd9b062188d22c654cf7e826df7317747af2", func := "cocket/cocketlaw05.QuotaKohlberg", spec := "quotaKohlberg", unfollowed := true, recurses := true, apart := false, narrowed := true }
def QuotaKohlbergUptoSaid : Prop := quotaKohlbergUptoRow.holds Try.pinned (OpenSpec.upto quotaKohlbergSpec)

end Rows
end Go.Proofs.Ytcngecibljgndaa
