/- Addresses that may be, paths, routes: functions of numbers, summaries, contexts. Definitions alone. No conditions. -/
import Derived.Test.YtcdakjhcnamncaaRcD
set_option linter.unusedVariables false
namespace Go.Spec
open Go Go.Ev
/-- Where x stands first in a list; -1: nowhere. -/
def idxL (x : Int) : List Int → Int → Int
 | [], _ => -1
 | a :: r, i => match eqK x a with
   | true => i
   | false => idxL x r (i + 1)
def hasL (xs : List Int) (x : Int) : Bool := xs.contains x
/-- Is none 0, and none twice? -/
def freshB (pre : List Int) : List Int → Bool
 | [] => true
 | a :: r => !(eqK a 0 || hasL pre a) && freshB (pre ++ [a]) r
def addrB (xs : List Int) : Bool := freshB [] xs && (decide (1 ≤ xs.length) && decide (xs.length ≤ 3))
end Go.Spec
namespace Go.Ev
open Go Go.Proofs Go.Spec
def rd32 (xs : List Int) : Option SO := some (.own false .ext 0 1 (.ints .u32 xs))
abbrev tmO (rmin rmax ri : Int) : Option SO := obj 99 6 [iv .u64 (IntKind.wrap .u64 rmin), iv .u64 (IntKind.wrap .u64 rmax), iv .u64 (IntKind.wrap .u64 ri), iv .u64 0, iv .u64 0, bv false]
abbrev wiO (mtu : Int) : Option SO := obj 101 4 [iv .i64 mtu, iv .i64 (mulK .i64 2 mtu), iv .i64 65536, iv .i64 0]
abbrev cfO (mtu ss sr rr mm ri rmin rmax it pt al beat life : Int) : Option SO := obj 25 13 [iv .i64 mtu, iv .u16 ss, iv .i64 sr, iv .i64 rr, iv .i64 mm, iv .u32 ri, iv .u32 rmin, iv .u32 rmax, iv .u8 it, iv .u8 pt, iv .u8 al, iv .u32 beat, iv .u32 life]
abbrev exO (xs : List Int) : Option SO := some (.own false .ext 0 1 (.ints .u32 xs))
abbrev taO (n : Nat) (ks is : List Int) : Option SO := some (.own false .ext 0 2 (.tab n [.ints .u8 ks, .ints .i64 is]))
abbrev paO (f t : Int) (a b : Nat) (pt m : Int) (d : Bool) : Option SO := obj 81 8 [iv .u32 f, iv .u32 t, .ptr a 0 0, .ptr b 0 0, iv .i64 (IntKind.wrap .i64 pt), iv .i64 m, bv d, .raw (.slice none 0 0)]
def fIdx (vas : List VA) (k : SV → St → Prop) : Prop := match vas with
 | [.a (.one (.dat .u32 xs)), .a (.one (.raw (.int .u32 x)))] => need (decide (xs.length ≤ 1000000)) (k (.sa (.one (iv .i64 (idxL x xs 0)))) [])
 | _ => False
def sIdx : SumT := pureSum [.cells [some .u32], .cells []] fIdx
def fHas (vas : List VA) (k : SV → St → Prop) : Prop := match vas with
 | [.a (.one (.dat .u32 xs)), .a (.one (.raw (.int .u32 x)))] => need (decide (xs.length ≤ 1000000)) (k (.sa (.one (bv (hasL xs x)))) [])
 | _ => False
def sHas : SumT := pureSum [.cells [some .u32], .cells []] fHas
def fAddr (vas : List VA) (k : SV → St → Prop) : Prop := match vas with
 | [.a (.one (.dat .u32 xs))] => need (decide (xs.length ≤ 1000000)) (k (.sa (.one (bv (addrB xs)))) [])
 | _ => False
def sAddr : SumT := pureSum [.cells [some .u32]] fAddr
noncomputable def cxIx : Cx := mkCx Try.prog [] [(53, 2, [0, 1, 7, 8], [])] []
noncomputable def cxHa : Cx := mkCx Try.prog [(53, sIdx)] [] []
noncomputable def cxAd : Cx := mkCx Try.prog [(42, sHas)] [(30, 2, [0, 5, 6, 7], [])] []
def sPNew : SumT := fun args st k => match args, st with
 | [.agg [.raw (.int .i64 mtu), .raw (.int .u16 ss), .raw (.int .i64 sr), .raw (.int .i64 rr), .raw (.int .i64 mm), .raw (.int .u32 ri), .raw (.int .u32 rmin), .raw (.int .u32 rmax), .raw (.int .u8 it), .raw (.int .u8 pt), .raw (.int .u8 al), .raw (.int .u32 beat), .raw (.int .u32 life)], .one (.raw (.int .u32 a)), .one (.raw (.int .u32 b))], [] =>
   branch (checkB ⟨mtu, ss, sr, rr, mm, ri, rmin, rmax, it, pt, al, beat, life⟩)
     (k (.tup [(.one (SC.ptr 0 0 0)), (.one (iv .i64 0))]) [(obj 81 8 [(iv .u32 a), (iv .u32 b), (SC.ptr 1 0 0), (SC.ptr 2 0 0), (iv .i64 (IntKind.wrap .i64 pt)), (iv .i64 0), (bv false), (SC.raw (Value.slice Option.none 0 0))]), (obj 99 6 [(iv .u64 (IntKind.wrap .u64 rmin)), (iv .u64 (IntKind.wrap .u64 rmax)), (iv .u64 (IntKind.wrap .u64 ri)), (iv .u64 0), (iv .u64 0), (bv false)]), (obj 101 4 [(iv .i64 mtu), (iv .i64 (mulK .i64 2 mtu)), (iv .i64 65536), (iv .i64 0)])])
     (k (.tup [(.one (SC.raw (Value.pointer Option.none))), (.one (iv .i64 2))]) [])
 | _, _ => False
noncomputable def cxRn : Cx := mkCx Try.prog [(30, sAddr), (31, sPNew)] [] []
/-- Of addresses that may not be: no routes. -/
def fRnBad (vas : List VA) (k : SV → St → Prop) : Prop := match vas with
 | [.a (.agg [.raw (.int .i64 mtu), .raw (.int .u16 ss), .raw (.int .i64 sr), .raw (.int .i64 rr), .raw (.int .i64 mm), .raw (.int .u32 ri), .raw (.int .u32 rmin), .raw (.int .u32 rmax), .raw (.int .u8 it), .raw (.int .u8 pt), .raw (.int .u8 al), .raw (.int .u32 beat), .raw (.int .u32 life)]), .a (.one (.dat .u32 xs)), .a (.one (.dat .u32 ys))] =>
   need (decide (xs.length ≤ 1000000) && (decide (ys.length ≤ 1000000) && Bool.not (addrB xs && addrB ys))) (k (.tup [(.one (SC.raw (Value.pointer Option.none))), (.one (iv .i64 2))]) [])
 | _ => False
def sRnBad : SumT := pureSum [.cells [], .cells [some .u32], .cells [some .u32]] fRnBad
noncomputable def cxRb : Cx := mkCx Try.prog [(30, sAddr), (31, sPNew)] [(8, 5, [2, 3, 8, 28, 29, 30], [])] []
def sTrue : SumT := fun args st k => match args, st with
 | [], [] => k (.sa (.one (bv true))) []
 | _, _ => False
def wrS : List (Nat × Nat) := [(10, 2), (11, 2), (32, 1), (33, 1), (45, 1)]
noncomputable def cxSi : Cx := mkCx Try.prog [(7, sTrue), (30, sAddr), (31, sPNew)] [(3, 8, [4, 9, 11, 41, 42, 43], []), (3, 1000010, [4, 9, 11, 13, 41, 42, 43], [])] wrS
noncomputable def cxSb : Cx := mkCx Try.prog [(7, sTrue), (8, sRnBad)] [] []
noncomputable def cxPn : Cx := mkCx Try.prog [(54, sCheck)] [] []
end Go.Ev
