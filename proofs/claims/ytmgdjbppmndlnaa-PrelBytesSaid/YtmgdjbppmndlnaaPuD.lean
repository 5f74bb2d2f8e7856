/- What is told, in bytes and back; the law's context: summaries. Definitions alone. No conditions. -/
import Derived.Test.YtmgdjbppmndlnaaPcE
set_option linter.unusedVariables false
namespace Go.Spec
open Go Go.Ev
def headB (pt : Int) : List Int := [IntKind.wrap .u8 (shrK .u32 pt 24), IntKind.wrap .u8 (shrK .u32 pt 16), IntKind.wrap .u8 (shrK .u32 pt 8), IntKind.wrap .u8 pt]
def skB (ss qs : List Int) (i : Nat) : List Int := [IntKind.wrap .u8 (shrK .u16 (ss.getD i 0) 8), IntKind.wrap .u8 (ss.getD i 0), IntKind.wrap .u8 (shrK .u16 (qs.getD i 0) 8), IntKind.wrap .u8 (qs.getD i 0)]
def bodyB (pt : Int) (ss qs : List Int) : Nat → List Int
  | 0 => headB pt
  | i + 1 => bodyB pt ss qs i ++ skB ss qs i
def fwdB (pt : Int) (ss qs : List Int) : List Int := tlvB (bodyB pt ss qs ss.length)
def okSk (pt : Int) (ss qs : List Int) (n : Nat) : Bool := decide (ss.length = n ∧ qs.length = n ∧ n ≤ 300 ∧ 0 ≤ pt ∧ pt ≤ 4294967295 ∧ (∀ x ∈ ss, 0 ≤ x ∧ x ≤ 65535) ∧ (∀ x ∈ qs, 0 ≤ x ∧ x ≤ 65535))
/-- The value that is told; its point, streams and numbers. -/
def valB (xs : List Int) : List Int := (valsB xs).getD 0 []
def chS : Nat → List Int → List Int
  | 0, _ => []
  | n + 1, ys => (256 * ys.getD 0 0 + ys.getD 1 0) :: chS n (ys.drop 4)
def chQ : Nat → List Int → List Int
  | 0, _ => []
  | n + 1, ys => (256 * ys.getD 2 0 + ys.getD 3 0) :: chQ n (ys.drop 4)
def ptT (xs : List Int) : Int := 16777216 * (valB xs).getD 0 0 + 65536 * (valB xs).getD 1 0 + 256 * (valB xs).getD 2 0 + (valB xs).getD 3 0
def nT (xs : List Int) : Nat := ((valB xs).drop 4).length / 4
def ssT (xs : List Int) : List Int := chS (nT xs) ((valB xs).drop 4)
def qsT (xs : List Int) : List Int := chQ (nT xs) ((valB xs).drop 4)
def okT (xs : List Int) : Bool := endsB xs && decide (cntB xs = 1 ∧ (kindsB xs).getD 0 0 = 192 ∧ (flagsB xs).getD 0 0 = 0 ∧ 4 ≤ (valB xs).length ∧ (valB xs).length % 4 = 0) && risB (ssT xs)
end Go.Spec
namespace Go.Ev
open Go Go.Proofs Go.Spec
def sPp : SumT := fun args st k => match args, st with
  | [.agg [.raw (.int .u32 pt), .ref 0]], [some (.own w kk T 2 (.tab n [.ints .u16 ss, .ints .u16 qs]))] => need (okSk pt ss qs n)
    (branch (risB ss) (k (.tup [.one (.ref 1), .one (iv .i64 0)]) [skO w kk T n ss qs, rdB true .row 5 (fwdB pt ss qs)]) (k (.tup [.one nilC, .one (iv .i64 2)]) [skO w kk T n ss qs]))
  | _, _ => False
def sRb : SumT := fun args st k => match args, st with
  | [.one (.raw (.int .u32 pt)), .one (.ref 0), .one (.ref 1)], [some (.own w .row T 1 (.ints .u16 ss)), some (.own v .row U 1 (.ints .u16 qs))] => need (okSk pt ss qs ss.length)
    (k (.tup [.one (.ref 2), .one (bv (risB ss))]) [rd16 w .row T ss, rd16 v .row U qs, rdB true .row 5 (fwdB pt ss qs)])
  | _, _ => False
def sPt : SumT := fun args st k => match args, st with
  | [.one (.ref 0)], [some (.own false .ext 0 1 (.ints .u8 xs))] => need (byB xs)
    (branch (okT xs) (k (.tup [.agg [iv .u32 (ptT xs), .ref 1], .one (iv .i64 0)]) [rdB false .ext 0 xs, skO true .row 31 (nT xs) (ssT xs) (qsT xs)])
      (k (.tup [.agg [iv .u32 0, nilC], .one (iv .i64 2)]) [rdB false .ext 0 xs]))
  | _, _ => False
def sRt : SumT := fun args st k => match args, st with
  | [.one (.ref 0)], [some (.own false .ext 0 1 (.ints .u8 xs))] => need (byB xs)
    (branch (okT xs) (k (.tup [.one (iv .u32 (ptT xs)), .one (.ref 1), .one (.ref 2), .one (bv true)]) [rdB false .ext 0 xs, rd16 true .row 29 (ssT xs), rd16 true .row 29 (qsT xs)])
      (k (.tup [.one (iv .u32 0), .one nilC, .one nilC, .one (bv false)]) [rdB false .ext 0 xs]))
  | _, _ => False
def sTrue : SumT := fun args st k => match args, st with
  | [], [] => k (.sa (.one (bv true))) []
  | _, _ => False
noncomputable def cxPb : Cx := mkCx Try.prog [(5, sTrue), (6, sPp), (7, sRb), (8, sPt), (9, sRt)]
  [(3, 5, [1, 2, 5, 6, 34, 35, 36], [⟨5, [], 28⟩, ⟨6, [], 28⟩]),
   (3, 1000013, [1, 9], [⟨9, [], 1000000 + 26⟩]),
   (3, 21, [91, 92, 93, 18, 19, 136, 137, 138], [⟨18, [], 28⟩, ⟨19, [], 28⟩, ⟨136, [], 23⟩])] []
end Go.Ev
