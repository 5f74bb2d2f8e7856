/- NetTurns: a net whose last datagram's bytes may be written; summaries, contexts. Definitions alone. No conditions. -/
import Derived.Test.YtocmcimaghjhiaaNtD
set_option linter.unusedVariables false
namespace Go.Spec
open Go Go.Ev
/-- The bit's place. -/
def atT (bit : Int) (b : List Int) : Int := placeK bit (mulK .i64 8 ((b.length : Nat) : Int))
def byT (bit : Int) (b : List Int) : Nat := (quoK .i64 (atT bit b) 8).toNat
/-- The bytes with one bit turned. -/
def turnL (bit : Int) (b : List Int) : List Int := b.set (byT bit b) (xorK .u8 (b.getD (byT bit b) 0) (shlK .u8 1 (remK (atT bit b) 8)))
def turnB (bit : Int) (b : List Int) : List Int := match b with
  | [] => []
  | x :: r => turnL bit (x :: r)
end Go.Spec
namespace Go.Ev
open Go Go.Proofs Go.Spec
def ownB (b : List Int) : Option SO := some (.own true .row 5 1 (.ints .u8 b))
def netE (n : Nat) (fs ts : List Int) (bs : List (List Int)) (us : List Int) (f t : Int) (r : Nat) (a : Int) : Option SO := some (.own true .row 61 4 (.ext n [.ints .u32 fs, .ints .u32 ts, .data .u8 bs, .ints .u64 us] [[iv .u32 f, iv .u32 t, .ref r, iv .u64 a]]))
def wrT : List (FuncId × Nat) := [(22, 2), (27, 2), (28, 2), (14, 2), (16, 2)] ++ wrN
noncomputable def cxP : Cx := mkCx Try.prog [(29, sPlace), (32, sClone8)] [] wrT
noncomputable def cxT : Cx := { mkCx Try.prog [(29, sPlace), (32, sClone8)] [] wrT with ext := true }
end Go.Ev
