/- Whatever the code, the law of results answers true: points of all teams are twice the meetings played, rankings have all teams, and the teams with the most points can be first when all rounds are played; no condition. -/
import Derived.Test.YthkbodgpcjcndaaKdx24
/- Places in a text, and what stands behind them. -/
set_option linter.unusedVariables false
set_option linter.unusedSimpArgs false
namespace Go.HL

def subC : Code → List Nat → Code
  | c, [] => c
  | .seq a b, i :: p => bif i == 0 then subC a p else subC b p
  | .cond _ a b, i :: p => bif i == 0 then subC a p else subC b p
  | .block _ a, _ :: p => subC a p
  | .loop a, _ :: p => subC a p
  | c, _ => c
def subR : RC → List Nat → RC
  | c, [] => c
  | .seq a b, i :: p => bif i == 0 then subR a p else subR b p
  | .join _ _ a b, i :: p => bif i == 0 then subR a p else subR b p
  | .cond a b, i :: p => bif i == 0 then subR a p else subR b p
  | .block a, _ :: p => subR a p
  | .loop _ a, _ :: p => subR a p
  | c, _ => c
/-- What stands behind a place of a text; ks: what stands behind the parts whose ways meet again, the outermost first. -/
def contQ (P : Program) : Code → RC → AQ → List (List Value → Heap → Prop) → List Nat → AQ
  | _, _, Q, _, [] => Q
  | .seq a b, .seq ra rb, Q, ks, i :: p => bif i == 0 then contQ P a ra (thenQ (fun t h => vc P b rb Q t h) Q) ks p else contQ P b rb Q ks p
  | .seq a b, .join _ outs ra rb, Q, ks, i :: p => bif i == 0 then
      (match ks with
        | k :: ks => contQ P a ra (thenQ (fun t' h' => k (outs.map fun o => t'.getD o.1 undef) h') Q) ks p
        | [] => Q)
    else contQ P b rb Q ks p
  | .cond _ a b, .cond ra rb, Q, ks, i :: p => bif i == 0 then contQ P a ra Q ks p else contQ P b rb Q ks p
  | .block id a, .block ra, Q, ks, _ :: p => contQ P a ra (blockQ id Q) ks p
  | .loop a, .loop live ra, Q, ks, _ :: p => contQ P a ra (thenQ (fun t' h' => Loops P a Q (keepL live 0 t') h') Q) ks p
  | _, _, Q, _, _ => Q
def look (i : Nat) : List (Nat × Value) → Value
  | [] => unk
  | (j, v) :: l => bif i == j then v else look i l
def frameAt (l : List (Nat × Value)) : Nat → Nat → List Value
  | _, 0 => []
  | i, n + 1 => look i l :: frameAt l (i + 1) n
def frame (n : Nat) (l : List (Nat × Value)) : List Value := frameAt l 0 n

end Go.HL
