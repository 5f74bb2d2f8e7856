/- Part A of a checked reader of the program form: what it computes on an abstract state is what the model does, in any order of a region. No conditions. -/
import Derived.WalkKit
import Derived.OrdersIn
set_option linter.unusedSimpArgs false
set_option linter.unusedVariables false
/- THE ENGINE, part 0: the data of an object that is told by a word of its own. Definitions alone. -/
namespace Go.Ev
abbrev AD := List (List Int)
end Go.Ev

/- THE ENGINE, part 1: a symbolic evaluator of the model's code on abstract states. Definitions alone. -/
namespace Go.Ev
open Go
structure Den where
  blk : Nat
  off : Nat
  m : Nat
  cap : Nat
  val : Value
  live : Bool := true
abbrev Al := Nat → Option Den
inductive SC where
  | raw (v : Value)
  | ptr (o i j : Nat)
  | sl (o i n : Nat) (c : Option Nat)
  | ref (o : Nat)
  | dat (k : IntKind) (xs : List Int)
inductive SA where
  | one (x : SC)
  | agg (l : List SC)
inductive SV where
  | sa (x : SA)
  | tup (l : List SA)
inductive Col where
  | ints (k : IntKind) (xs : List Int)
  | bools (xs : List Bool)
  | data (k : IntKind) (xss : List (List Int))
inductive Ct where
  | lst (vs : List (List SC))
  | ints (k : IntKind) (xs : List Int)
  | tab (n : Nat) (cs : List Col)
  | ext (n : Nat) (cs : List Col) (vs : List (List SC))
  | at1 (n : Nat) (vs : List Value) (i : Nat) (e : List SC)
inductive MK where
  | whole
  | row
  | ext
structure SE where
  key : Value
  val : SA
  born : Nat
structure VE where
  key : List Int
  val : Option SA
  born : Nat
inductive KC where
  | ints (k : IntKind) (xs : List Int)
  | strs (xs : List ByteArray)
inductive SO where
  | mem (w : Bool) (k : MK) (T : TypeId) (m : Nat) (ct : Ct)
  | clo (f : Fn) (first cap : List SA)
  | mp (wr : Bool) (es : List SE) (clock : Nat)
  | mt (wr : Bool) (kc : KC) (va : Bool) (cs : List Col) (bs : List Int) (clock : Nat)
  | abs (wr : Bool) (t : Nat) (D : AD)
  | mv (wr : Bool) (kk : List IntKind) (es : List VE) (rs : List MapEntry) (cl hot : Nat)
  | box (wr : Bool) (ob : Obj)
  | part (o i n : Nat)
  | nul
  | own (w : Bool) (k : MK) (T : TypeId) (m : Nat) (ct : Ct)
  | lp (w : Bool) (f : Nat) (fr : List (Option SV)) (ps : List Nat) (a b : Code) (s : Nat) (j : Option Code)
abbrev St := List (Option SO)
abbrev Fr := List (Option SV)
def lf (p : Prop) : Prop := p
def need (b : Bool) (p : Prop) : Prop := match b with | true => p | false => False
def branch (b : Bool) (p q : Prop) : Prop := match b with | true => p | false => q
def Ct.len : Ct → Nat
  | .lst vs => vs.length
  | .ints _ xs => xs.length
  | .tab n _ => n
  | .ext n _ vs => n + vs.length
  | .at1 n _ _ _ => n
def getL {α : Type} (d : α) : List α → Nat → α
  | [], _ => d
  | x :: _, 0 => x
  | _ :: r, n + 1 => getL d r n
def setL {α : Type} : List α → Nat → α → List α
  | [], _, _ => []
  | _ :: r, 0, y => y :: r
  | x :: r, n + 1, y => x :: setL r n y
def fitL {α : Type} (d : α) : Nat → List α → List α
  | 0, _ => []
  | n + 1, [] => d :: fitL d n []
  | n + 1, x :: r => x :: fitL d n r
def Col.at : Col → Nat → SC
  | .ints k xs, i => .raw (.int k (xs.getD i 0))
  | .bools xs, i => .raw (.bool (xs.getD i false))
  | .data k xss, i => .dat k (xss.getD i [])
def colsAt (i : Nat) : List Col → List SC
  | [] => []
  | c :: r => c.at i :: colsAt i r
def Col.set (n i : Nat) : Col → SC → Option Col
  | .ints k xs, .raw (.int k' x) => if k = k' then some (.ints k ((fitL 0 n xs).set i x)) else none
  | .bools xs, .raw (.bool x) => some (.bools ((fitL false n xs).set i x))
  | .data k xss, .dat k' x => if k = k' then some (.data k ((fitL [] n xss).set i x)) else none
  | _, _ => none
def Col.push (n : Nat) : Col → SC → Option Col
  | .ints k xs, .raw (.int k' x) => if k = k' then some (.ints k (fitL 0 n xs ++ [x])) else none
  | .bools xs, .raw (.bool x) => some (.bools (fitL false n xs ++ [x]))
  | .data k xss, .dat k' x => if k = k' then some (.data k (fitL [] n xss ++ [x])) else none
  | _, _ => none
def zipO (f : Col → SC → Option Col) : List Col → List SC → Option (List Col)
  | [], [] => some []
  | c :: r, e :: es => match f c e, zipO f r es with
    | some c', some r' => some (c' :: r')
    | _, _ => none
  | _, _ => none
def Ct.get : Ct → Nat → List SC
  | .lst vs, i => getL [] vs i
  | .ints k xs, i => [.raw (.int k (xs.getD i 0))]
  | .tab _ cs, i => colsAt i cs
  | .ext n cs vs, i => match Nat.blt i n with | true => colsAt i cs | false => getL [] vs (i - n)
  | .at1 _ vs j e, i => match Nat.beq i j with | true => e | false => [.raw (getL (.bool false) vs i)]
def Ct.set : Ct → Nat → List SC → Option Ct
  | .lst vs, i, e => some (.lst (setL vs i e))
  | .ints k xs, i, [.raw (.int k' x)] => if k = k' then some (.ints k (xs.set i x)) else none
  | .tab n cs, i, e => match zipO (Col.set n i) cs e with | some cs' => some (.tab n cs') | none => none
  | _, _, _ => none
def St.get (st : St) (o : Nat) : Option SO := getL none st o
def St.put (st : St) (o : Nat) (so : Option SO) : St := setL st o so
def SA.cells : SA → List SC
  | .one x => [x]
  | .agg l => l
def isCell : Value → Bool
  | .agg _ | .tuple _ => false
  | _ => true
def SC.isCell : SC → Bool
  | .raw v => Ev.isCell v
  | .dat _ _ => false
  | _ => true
def allCells : List SC → Bool
  | [] => true
  | c :: r => match c.isCell with | true => allCells r | false => false
def SA.ofValue : Value → SA
  | .agg cs => .agg (cs.toList.map .raw)
  | v => .one (.raw v)
def SV.ofValue : Value → SV
  | .tuple vs => .tup (vs.toList.map SA.ofValue)
  | v => .sa (SA.ofValue v)
def pureSem {α : Type} (P : Program) : Sem α → Option α
  | .pure a => some a
  | .program k => pureSem P (k P)
  | .mark _ k => pureSem P k
  | _ => none
def opt {α : Type} (x : Option α) (k : α → Prop) : Prop := match x with | some a => k a | none => False
def tIsAgg (P : Program) (t : TypeId) : Option Bool :=
  match P.underlying t with
  | some (.struct _) | some (.array _ _) => some true
  | some _ => some false
  | none => none
def tSize (P : Program) (t : TypeId) : Option Nat := (P.info? t).map (·.size)
def tZero (P : Program) (t : TypeId) : Option Value := (P.info? t).bind (·.zero)
def takeL {α : Type} : Nat → List α → List α
  | 0, _ => []
  | _, [] => []
  | n + 1, x :: r => x :: takeL n r
def dropL {α : Type} : Nat → List α → List α
  | 0, l => l
  | _, [] => []
  | n + 1, _ :: r => dropL n r
def splice {α : Type} (l : List α) (j : Nat) (e : List α) : List α := takeL j l ++ e ++ dropL (j + e.length) l
def lenL {α : Type} : List α → Nat
  | [] => 0
  | _ :: r => lenL r + 1
def readAt (P : Program) (t : TypeId) (e : List SC) (j : Nat) : Option SA :=
  match tIsAgg P t, tSize P t with
  | some true, some s => if j + s ≤ lenL e then some (.agg (takeL s (dropL j e))) else none
  | some false, _ => if j < lenL e then some (.one (getL (.raw undef) e j)) else none
  | _, _ => none
def SO.rows : SO → Option (Nat × Ct)
  | .mem _ _ _ m ct => some (m, ct)
  | .own _ _ _ m ct => some (m, ct)
  | _ => none
def SO.setCt : SO → Ct → SO
  | .mem w k T m _, ct => .mem w k T m ct
  | .own w k T m _, ct => .own w k T m ct
  | so, _ => so
def SO.ty : SO → TypeId
  | .own _ _ T _ _ => T
  | .mem _ _ T _ _ => T
  | _ => 0
def SO.can : SO → Bool
  | .mem true .whole _ _ _ => true
  | .mem true .row _ _ _ => true
  | .own true .row _ _ _ => true
  | _ => false
def SO.ice : SO → Option SO
  | .mem true _ T m ct => some (.mem false .ext T m ct)
  | .mem false .ext T m ct => some (.mem false .ext T m ct)
  | .own true _ T m ct => some (.own false .ext T m ct)
  | .own false .ext T m ct => some (.own false .ext T m ct)
  | _ => none
def St.rows (st : St) (o : Nat) : Option (Nat × Ct) := match st.get o with
  | some so => so.rows
  | none => none
def SO.capped : SO → Option Nat → Nat → Bool
  | .mem _ .ext _ _ _, none, _ => false
  | _, some c, n => decide (n ≤ c)
  | _, _, _ => true
def St.roomy (st : St) (o : Nat) : Option (Nat × Ct) := match st.get o with
  | some (.own _ _ _ m ct) => some (m, ct)
  | _ => none
def St.list (st : St) (q : Nat) : Option (Nat × Nat × Nat) := match st.get q with
  | some (.own _ _ _ _ ct) => some (q, 0, ct.len)
  | some (.part o i n) => some (o, i, n)
  | _ => none
def SC.list (st : St) : SC → Option (Nat × Nat × Nat)
  | .sl o i n _ => some (o, i, n)
  | .ref q => st.list q
  | _ => none
def ghosts : List SC → St → List SC × St
  | [], st => ([], st)
  | .dat k xs :: r, st => match ghosts r (st ++ [some (.own false .ext 0 1 (.ints k xs))]) with
    | (l, s) => (.ref (lenL st) :: l, s)
  | c :: r, st => match ghosts r st with
    | (l, s) => (c :: l, s)
def ghostA (a : SA) (st : St) (k : SV → St → Prop) : Prop := match a with
  | .one (.dat kk xs) => k (.sa (.one (.ref (lenL st)))) (st ++ [some (.own false .ext 0 1 (.ints kk xs))])
  | .one c => k (.sa (.one c)) st
  | .agg l => match ghosts l st with
    | (l', s) => k (.sa (.agg l')) s
structure Tidy where
  slot : Nat
  path : List Nat
  T : TypeId
structure Hand where
  n : Nat
  ins : List Nat
  live : List Nat
  outs : List Nat
  way : List Nat
  s : List SA → St → (SV → St → Prop) → Prop
structure Cx where
  P : Program
  sum : FuncId → Option (List SA → St → (SV → St → Prop) → Prop)
  loop : FuncId → Nat → Option (List Nat × List Tidy)
  wr : FuncId → Nat
  force : Bool := false
  ice : Bool := false
  ovl : FuncId → Bool := fun _ => false
  tab : Bool := false
  ext : Bool := false
  hand : FuncId → Nat → Option Hand := fun _ _ => none
abbrev CallT := FuncId → List SA → St → (SV → St → Prop) → Prop
def unitV : SV := .tup []
def Fr.get (fr : Fr) (t : Nat) : Option SV := getL none fr t
def Fr.put (fr : Fr) (d : Option Nat) (v : SV) : Fr := match d with | some t => setL fr t (some v) | none => fr
def evOperand (fr : Fr) : Operand → Option SV
  | .tmp t => fr.get t
  | .const v => some (SV.ofValue v)
  | .func f => some (.sa (.one (.raw (.func (.func f) #[] #[]))))
  | .global _ => none
def evSA (fr : Fr) (x : Operand) : Option SA :=
  match evOperand fr x with
  | some (.sa a) => some a
  | _ => none
def evSAs (fr : Fr) : List Operand → Option (List SA)
  | [] => some []
  | x :: r => match evSA fr x, evSAs fr r with
    | some a, some l => some (a :: l)
    | _, _ => none
def evNil (st : St) : TypeDesc → SC → SC → Bool
  | .pointer _, .ptr .., .raw (.pointer none) => true
  | .pointer _, .raw (.pointer none), .ptr .. => true
  | .slice _, .sl .., .raw (.slice none _ _) => true
  | .slice _, .ref q, .raw (.slice none _ _) => match st.list q with | some (_, _, n) => decide (0 < n) | none => false
  | .func _ _ _, .ref o, .raw .nilFunc => match st.get o with | some (.clo _ _ _) => true | _ => false
  | .map _ _, .ref o, .raw (.map none) => match st.get o with | some (.mp _ _ _) => true | some (.mt _ _ _ _ _ _) => true | _ => false
  | _, _, _ => false
def rawL : List SC → Option (List Value)
  | [] => some []
  | .raw v :: r => match rawL r with | some l => some (v :: l) | none => none
  | _ => none
def fI {α : Type} (x : Int) (f : Int → α) : α := match x with
  | .ofNat n => f (.ofNat n)
  | .negSucc n => f (.negSucc n)
def addK (k : IntKind) (x y : Int) : Int := fI x fun x => fI y fun y => k.wrap (x + y)
def subK (k : IntKind) (x y : Int) : Int := fI x fun x => fI y fun y => k.wrap (x - y)
def mulK (k : IntKind) (x y : Int) : Int := fI x fun x => fI y fun y => k.wrap (x * y)
def quoK (k : IntKind) (x y : Int) : Int := fI x fun x => fI y fun y => k.wrap (x.tdiv y)
def remK (x y : Int) : Int := fI x fun x => fI y fun y => x.tmod y
def shlK (k : IntKind) (x y : Int) : Int := fI x fun x => fI y fun y => k.wrap (x * 2 ^ (min y.toNat k.bits))
def shrK (k : IntKind) (x y : Int) : Int := fI x fun x => fI y fun y => x.fdiv (2 ^ (min y.toNat k.bits))
def andK (k : IntKind) (x y : Int) : Int := fI x fun x => fI y fun y => k.wrap (BitVec.ofInt k.bits x &&& BitVec.ofInt k.bits y).toNat
def orK (k : IntKind) (x y : Int) : Int := fI x fun x => fI y fun y => k.wrap (BitVec.ofInt k.bits x ||| BitVec.ofInt k.bits y).toNat
def xorK (k : IntKind) (x y : Int) : Int := fI x fun x => fI y fun y => k.wrap (BitVec.ofInt k.bits x ^^^ BitVec.ofInt k.bits y).toNat
def andnK (k : IntKind) (x y : Int) : Int := fI x fun x => fI y fun y => k.wrap (BitVec.ofInt k.bits x &&& ~~~BitVec.ofInt k.bits y).toNat
def eqK (x y : Int) : Bool := fI x fun x => fI y fun y => x == y
theorem fI_eq {α : Type} (x : Int) (f : Int → α) : fI x f = f x := by cases x <;> rfl
theorem eqK_eq (x y : Int) : eqK x y = (x == y) := by simp only [eqK, fI_eq]
theorem eqK_t {x y : Int} : eqK x y = true ↔ x = y := by rw [eqK_eq]; simp
theorem eqK_f {x y : Int} : eqK x y = false ↔ x ≠ y := by rw [eqK_eq]; simp
theorem addK_eq (k : IntKind) (x y : Int) : addK k x y = k.wrap (x + y) := by simp only [addK, fI_eq]
theorem subK_eq (k : IntKind) (x y : Int) : subK k x y = k.wrap (x - y) := by simp only [subK, fI_eq]
theorem mulK_eq (k : IntKind) (x y : Int) : mulK k x y = k.wrap (x * y) := by simp only [mulK, fI_eq]
theorem quoK_eq (k : IntKind) (x y : Int) : quoK k x y = k.wrap (x.tdiv y) := by simp only [quoK, fI_eq]
theorem remK_eq (x y : Int) : remK x y = x.tmod y := by simp only [remK, fI_eq]
theorem shlK_eq (k : IntKind) (x y : Int) : shlK k x y = k.wrap (x * 2 ^ (min y.toNat k.bits)) := by simp only [shlK, fI_eq]
theorem shrK_eq (k : IntKind) (x y : Int) : shrK k x y = x.fdiv (2 ^ (min y.toNat k.bits)) := by simp only [shrK, fI_eq]
theorem andK_eq (k : IntKind) (x y : Int) : andK k x y = k.wrap (BitVec.ofInt k.bits x &&& BitVec.ofInt k.bits y).toNat := by simp only [andK, fI_eq]
theorem orK_eq (k : IntKind) (x y : Int) : orK k x y = k.wrap (BitVec.ofInt k.bits x ||| BitVec.ofInt k.bits y).toNat := by simp only [orK, fI_eq]
theorem xorK_eq (k : IntKind) (x y : Int) : xorK k x y = k.wrap (BitVec.ofInt k.bits x ^^^ BitVec.ofInt k.bits y).toNat := by simp only [xorK, fI_eq]
theorem andnK_eq (k : IntKind) (x y : Int) : andnK k x y = k.wrap (BitVec.ofInt k.bits x &&& ~~~BitVec.ofInt k.bits y).toNat := by simp only [andnK, fI_eq]
def byteOfInt (n : Int) : UInt8 := UInt8.ofNat n.toNat
def strOf (l : List Int) : ByteArray := ⟨(l.map byteOfInt).toArray⟩
def strInts (s : ByteArray) : List Int := s.data.toList.map fun x => (x.toNat : Int)
def catS (a b : ByteArray) : ByteArray := a ++ b
def strEq (a b : ByteArray) : Bool := a.toList == b.toList
def idxI (x : Int) : List Int → Nat
  | [] => 0
  | y :: r => match eqK x y with | true => 0 | false => idxI x r + 1
def strEqD (a b : ByteArray) : Bool := a.data.toList == b.data.toList
def idxS (x : ByteArray) : List ByteArray → Nat
  | [] => 0
  | y :: r => match strEqD x y with | true => 0 | false => idxS x r + 1
def KC.len : KC → Nat
  | .ints _ xs => xs.length
  | .strs xs => xs.length
def KC.at : KC → Nat → Value
  | .ints k xs, i => .int k (xs.getD i 0)
  | .strs xs, i => .string (xs.getD i ByteArray.empty)
def KC.idx : KC → Value → Option Nat
  | .ints k xs, .int k' x => if k = k' then some (idxI x xs) else none
  | .strs xs, .string s => some (idxS s xs)
  | _, _ => none
def KC.push : KC → Value → KC
  | .ints k xs, .int _ x => .ints k (xs ++ [x])
  | .strs xs, .string s => .strs (xs ++ [s])
  | kc, _ => kc
def KC.erase : KC → Nat → KC
  | .ints k xs, i => .ints k (xs.eraseIdx i)
  | .strs xs, i => .strs (xs.eraseIdx i)
def Col.erase (i : Nat) : Col → Col
  | .ints k xs => .ints k (xs.eraseIdx i)
  | .bools xs => .bools (xs.eraseIdx i)
  | .data k xss => .data k (xss.eraseIdx i)
def SA.isAgg : SA → Bool
  | .agg _ => true
  | .one _ => false
def evInt (op : BinOp) (k : IntKind) (x y : Int) : Option Value :=
  match op with
  | .add => some (.int k (addK k x y))
  | .sub => some (.int k (subK k x y))
  | .mul => some (.int k (mulK k x y))
  | .and => some (.int k (andK k x y))
  | .or => some (.int k (orK k x y))
  | .xor => some (.int k (xorK k x y))
  | .andNot => some (.int k (andnK k x y))
  | .eql => some (.bool (eqK x y))
  | .neq => some (.bool (!eqK x y))
  | .lss => some (.bool (x < y))
  | .leq => some (.bool (x ≤ y))
  | .gtr => some (.bool (x > y))
  | .geq => some (.bool (x ≥ y))
  | _ => none
def eqFs (rec : TypeId → Value → Value → Option Bool) (P : Program) (xs ys : Array Value) : List Field → Option Bool
  | [] => some true
  | f :: r => match decide (f.name = "_"), pureSem P (part f.type xs f.offset), pureSem P (part f.type ys f.offset) with
    | false, some a, some b => match rec f.type a b, eqFs rec P xs ys r with
      | some p, some q => some (p && q)
      | _, _ => none
    | _, _, _ => none
def eqV (P : Program) : Nat → TypeId → Value → Value → Option Bool
  | 0, _, _, _ => none
  | n + 1, t, x, y => match P.underlying t, x, y with
    | some (.int _), .int k a, .int k' b => match decide (k = k') with | true => some (eqK a b) | false => none
    | some .bool, .bool a, .bool b => some (a == b)
    | some (.struct fs), .agg xs, .agg ys => match P.stoodInHeld t with
      | true => none
      | false => eqFs (eqV P n) P xs ys fs.toList
    | _, _, _ => none
def eqTop (P : Program) (T : TypeId) (a b : List Value) : Option Bool := match P.eqGuardType P.depth T with
  | true => none
  | false => eqV P 4 T (.agg a.toArray) (.agg b.toArray)
def evBin (P : Program) (op : BinOp) (T : TypeId) (xo yo : Operand) (st : St) (x y : SA) (k : SV → Prop) : Prop :=
  match x, y with
  | .one (.raw a), .one (.raw b) =>
    match op, a, b with
    | .quo, .int ka x, .int kb y => match decide (ka = kb) with
      | true => need (!decide (y = 0)) (k (.sa (.one (.raw (.int ka (quoK ka x y))))))
      | false => False
    | .rem, .int ka x, .int kb y => match decide (ka = kb) with
      | true => need (!decide (y = 0)) (k (.sa (.one (.raw (.int ka (remK x y))))))
      | false => False
    | .shl, .int ka x, .int _ y => need (decide (0 ≤ y)) (k (.sa (.one (.raw (.int ka (shlK ka x y))))))
    | .shr, .int ka x, .int _ y => need (decide (0 ≤ y)) (k (.sa (.one (.raw (.int ka (shrK ka x y))))))
    | op, .int ka x, .int kb y => match decide (ka = kb) with
      | true => opt (evInt op ka x y) fun r => k (.sa (.one (.raw r)))
      | false => False
    | .add, .string a, .string b => need (decide (a.size + b.size ≤ 9223372036854775807)) (k (.sa (.one (.raw (.string (catS a b))))))
    | .eql, .string a, .string b => k (.sa (.one (.raw (.bool (strEq a b)))))
    | .neq, .string a, .string b => k (.sa (.one (.raw (.bool (!strEq a b)))))
    | _, _, _ => opt (pureSem P (do eqGuard op T xo yo a b; binOp op T a b)) fun r => k (.sa (.one (.raw r)))
  | .one a, .one b =>
    match P.underlying T with
    | some d => need (evNil st d a b) (match op with
        | .eql => k (.sa (.one (.raw (.bool false))))
        | .neq => k (.sa (.one (.raw (.bool true))))
        | _ => False)
    | none => False
  | .agg a, .agg b =>
    match rawL a, rawL b with
    | some a, some b => match op, eqTop P T a b with
      | .eql, some r => k (.sa (.one (.raw (.bool r))))
      | .neq, some r => k (.sa (.one (.raw (.bool (!r)))))
      | _, _ => opt (pureSem P (do eqGuard op T xo yo (.agg a.toArray) (.agg b.toArray); binOp op T (.agg a.toArray) (.agg b.toArray))) fun r => k (.sa (.one (.raw r)))
    | _, _ => False
  | _, _ => False
def pickAt (z : Int) (k : Nat → Prop) : Nat → Nat → Prop
  | 0, _ => False
  | c + 1, s => branch (decide (z = (s : Int))) (k s) (pickAt z k c (s + 1))
def atElem (ct : Ct) (i : Nat) (z : Int) (k : Nat → Prop) : Prop :=
  match ct with
  | .lst vs => match Nat.ble (lenL vs) 16 with
    | true => pickAt z k (lenL vs - i) 0
    | false => k z.toNat
  | _ => k z.toNat
def evIndexAddr (P : Program) (T : TypeId) (st : St) (x ix : SA) (k : SV → Prop) : Prop :=
  match P.underlying T, x, ix with
  | some (.slice e), .one c, .one (.raw (.int _ z)) =>
    match c.list st with
    | some (o, i, n) => match st.rows o, tSize P e with
      | some (m, ct), some s =>
        match decide (m = s) with
        | true => need (decide (0 ≤ z)) (need (decide (z < n)) (atElem ct i z fun j => k (.sa (.one (.ptr o (i + j) 0)))))
        | false => False
      | _, _ => False
    | none => False
  | some (.array len e), .one (.ptr o i j), .one (.raw (.int _ z)) =>
    match st.get o, tSize P e with
    | some (.mem _ _ _ m ct), some s =>
      match decide (m = s ∧ j = 0) with
      | true => need (decide (0 ≤ z)) (need (decide (z < len)) (atElem ct i z fun q => k (.sa (.one (.ptr o (i + q) 0)))))
      | false => need (decide (0 ≤ z)) (need (decide (z < len)) (k (.sa (.one (.ptr o i (j + z.toNat * s))))))
    | _, _ => False
  | _, _, _ => False
def evIndex (P : Program) (T : TypeId) (x ix : SA) (k : SV → Prop) : Prop :=
  match P.underlying T, x, ix with
  | some (.array len e), .agg l, .one (.raw (.int _ z)) =>
    match tSize P e with
    | some s => need (decide (0 ≤ z)) (need (decide (z < len)) (opt (readAt P e l (z.toNat * s)) fun a => k (.sa a)))
    | none => False
  | some .string, .one (.raw (.string s)), .one (.raw (.int _ z)) =>
    need (decide (0 ≤ z)) (need (decide (z.toNat < s.size)) (k (.sa (.one (.raw (.int .u8 (getL (0 : UInt8) s.data.toList z.toNat).toNat))))))
  | _, _, _ => False
def gather (ct : Ct) (i : Nat) : Nat → List SC
  | 0 => []
  | n + 1 => ct.get i ++ gather ct (i + 1) n
def asRow (P : Program) (T : TypeId) (m : Nat) : Option Nat :=
  match P.underlying T with
  | some (.array n e) => match tSize P e, tSize P T with
    | some s, some z => if s = m ∧ z = n * m then some n else none
    | _, _ => none
  | _ => none
def rowK : List (List SC) → Nat → (List SC → Prop) → Prop
  | [], _, _ => False
  | e :: r, j, k => branch (decide (j = 0)) (k e) (rowK r (j - 1) k)
def Ct.atK (ct : Ct) (i : Nat) (k : List SC → Prop) : Prop := match ct with
  | .ext n cs vs => branch (decide (i < n)) (k (colsAt i cs)) (rowK vs (i - n) k)
  | .at1 _ _ j e => need (decide (i = j)) (k e)
  | ct => k (ct.get i)
def evLoad (P : Program) (T : TypeId) (st : St) (a : SA) (k : SV → St → Prop) : Prop :=
  match a with
  | .one (.ptr o i j) =>
    match st.rows o with
    | some (m, ct) =>
      match asRow P T m, j with
      | some n, 0 => need (decide (i + n ≤ ct.len)) (ghostA (.agg (gather ct i n)) st k)
      | _, _ => need (decide (i < ct.len)) (ct.atK i fun e => opt (readAt P T e j) fun v => ghostA v st k)
    | none => False
  | .one (.ref o) =>
    match st.get o, tIsAgg P T, tSize P T with
    | some .nul, some true, some 0 => k (.sa (.agg [])) st
    | _, _, _ => False
  | _ => False
def scatter (m : Nat) (ct : Ct) (i : Nat) (l : List SC) : Nat → Option Ct
  | 0 => some ct
  | n + 1 => match ct.set i (takeL m l) with
    | some ct' => scatter m ct' (i + 1) (dropL m l) n
    | none => none
def intsOf (k : IntKind) : List (List SC) → Option (List Int)
  | [] => some []
  | [.raw (.int k' x)] :: r => match decide (k = k'), intsOf k r with
    | true, some l => some (x :: l)
    | _, _ => none
  | _ => none
def Col.drop (i : Nat) : Col → Col
  | .ints k xs => .ints k (xs.drop i)
  | .bools xs => .bools (xs.drop i)
  | .data k xss => .data k (xss.drop i)
def Ct.sub : Ct → Nat → Nat → Ct
  | .lst vs, i, n => .lst (takeL n (dropL i vs))
  | .ints k xs, i, n => .ints k ((xs.drop i).take n)
  | .tab _ cs, i, n => .tab n (cs.map (Col.drop i))
  | .ext n cs vs, i, m => .lst ((List.range m).map fun j => match Nat.blt (i + j) n with | true => colsAt (i + j) cs | false => getL [] vs (i + j - n))
  | .at1 _ vs l e, i, m => .lst ((List.range m).map fun j => match Nat.beq (i + j) l with | true => e | false => [.raw (getL (.bool false) vs (i + j))])
def ctInts (k : IntKind) : Ct → Option (List Int)
  | .ints k' xs => if k = k' then some xs else none
  | .lst vs => intsOf k vs
  | .tab _ _ => none
  | .ext _ _ _ => none
  | .at1 _ _ _ _ => none
def frzAt (kk : IntKind) (st : St) (o i n : Nat) (c : Option Nat) (k : List Int → St → Prop) : Prop :=
  match st.get o with
  | some so => match so.rows, so.ice with
    | some (1, ct), some so' => need (so.capped c n) (need (decide (i + n ≤ ct.len)) (opt (ctInts kk (ct.sub i n)) fun xs => k xs (st.put o (some so'))))
    | _, _ => False
  | none => False
def frz (kk : IntKind) (st : St) (c : SC) (k : List Int → St → Prop) : Prop :=
  match c with
  | .raw (.slice none 0 _) => k [] st
  | .dat k' xs => match decide (kk = k') with
    | true => k xs st
    | false => False
  | .sl o i n c => frzAt kk st o i n c k
  | .ref q => match st.list q with
    | some (o, i, n) => frzAt kk st o i n none k
    | none => False
  | _ => False
abbrev Pat := List (Option IntKind)
def Col.pat : Col → Option IntKind
  | .data k _ => some k
  | _ => none
def Ct.pat : Ct → Pat
  | .tab _ cs => cs.map Col.pat
  | _ => []
def frzRow : Pat → List SC → St → (List SC → St → Prop) → Prop
  | none :: p, c :: r, st, k => frzRow p r st fun l s => k (c :: l) s
  | some kk :: p, c :: r, st, k => frz kk st c fun x s => frzRow p r s fun l s' => k (.dat kk x :: l) s'
  | _, cs, st, k => k cs st
def frzRows (p : Pat) : List (List SC) → St → (List (List SC) → St → Prop) → Prop
  | [], st, k => k [] st
  | e :: r, st, k => frzRow p e st fun e' s => frzRows p r s fun r' s' => k (e' :: r') s'
def frzCt (p : Pat) (ct : Ct) (st : St) (k : Ct → St → Prop) : Prop :=
  match ct with
  | .lst vs => frzRows p vs st fun vs' s => k (.lst vs') s
  | ct => k ct st
def putCells (st : St) (o i j : Nat) (cells : List SC) (k : St → Prop) : Prop :=
  match st.get o with
  | some so => match so.can, so.rows with
    | true, some (m, ct) => match decide (j + lenL cells ≤ m) with
      | true => need (decide (i < ct.len)) (opt (ct.set i (splice (ct.get i) j cells)) fun ct' => k (st.put o (some (so.setCt ct'))))
      | false => False
    | _, _ => False
  | none => False
def putElems (st : St) (o i n : Nat) (cells : List SC) (k : St → Prop) : Prop :=
  match st.get o with
  | some so => match so.can, so.rows with
    | true, some (m, ct) => match decide (lenL cells = n * m) with
      | true => need (decide (i + n ≤ ct.len ∧ 0 < n)) (opt (scatter m ct i cells n) fun ct' => k (st.put o (some (so.setCt ct'))))
      | false => False
    | _, _ => False
  | none => False
def evStore (P : Program) (T : TypeId) (st : St) (a v : SA) (k : St → Prop) : Prop :=
  match a with
  | .one (.ptr o i j) =>
    match st.rows o, tSize P T with
    | some (m, ct), some s =>
      match decide (lenL v.cells = s), allCells v.cells with
      | true, true =>
        match asRow P T m, j with
        | some n, 0 => putElems st o i n v.cells k
        | _, _ => frzRow (dropL j ct.pat) v.cells st fun cells st1 => putCells st1 o i j cells k
      | _, _ => False
    | _, _ => False
  | .one (.ref o) =>
    match st.get o, tIsAgg P T, tSize P T, v.cells with
    | some .nul, some true, some 0, [] => k st
    | _, _, _, _ => False
  | _ => False
def chunks {α : Type} (m : Nat) : Nat → List α → List (List α)
  | 0, _ => []
  | n + 1, l => takeL m l :: chunks m n (dropL m l)
def evNew (P : Program) (st : St) (T : TypeId) (cells : List SC) (k : SV → St → Prop) : Prop :=
  match allCells cells with
  | true =>
    match P.underlying T with
    | some (.array n e) =>
      match tSize P e with
      | some s => match decide (0 < s ∧ lenL cells = n * s) with
        | true => k (.sa (.one (.ptr (lenL st) 0 0))) (st ++ [some (.mem true .whole T s (.lst (chunks s n cells)))])
        | false => False
      | none => False
    | some _ => match decide (0 < lenL cells) with
      | true => k (.sa (.one (.ptr (lenL st) 0 0))) (st ++ [some (.mem true .whole T (lenL cells) (.lst [cells]))])
      | false => k (.sa (.one (.ref (lenL st)))) (st ++ [some .nul])
    | none => False
  | false => False
def fillL (place : Nat → Option (Nat × Nat)) (cells : List SC) : List (Nat × SA) → Option (List SC)
  | [] => some cells
  | (i, v) :: rest =>
    match place i with
    | none => none
    | some (off, size) =>
      if lenL v.cells = size ∧ off + size ≤ lenL cells ∧ allCells v.cells = true then fillL place (splice cells off v.cells) rest else none
def placesOf (P : Program) : List Field → Option (List (Nat × Nat))
  | [] => some []
  | f :: r => match tSize P f.type, placesOf P r with
    | some s, some l => some ((f.offset, s) :: l)
    | _, _ => none
def evParts (fr : Fr) : List (Nat × Operand) → Option (List (Nat × SA))
  | [] => some []
  | (i, x) :: r => match evSA fr x, evParts fr r with
    | some a, some l => some ((i, a) :: l)
    | _, _ => none
def evBuild (P : Program) (T : TypeId) (parts : List (Nat × SA)) : Option (List SC) :=
  match tZero P T, P.underlying T with
  | some z, some (.struct fs) =>
    match placesOf P fs.toList with
    | some pl => fillL (fun i => pl[i]?) (z.cells.toList.map .raw) parts
    | none => none
  | some z, some (.array _ e) =>
    match tSize P e with
    | some s => fillL (fun i => some (i * s, s)) (z.cells.toList.map .raw) parts
    | none => none
  | _, _ => none
def repL {α : Type} : Nat → α → List α
  | 0, _ => []
  | n + 1, x => x :: repL n x
def fillS (s : Nat) (vs : List (List SC)) : List (Nat × SA) → Option (List (List SC))
  | [] => some vs
  | (i, v) :: rest => if lenL v.cells = s ∧ i < lenL vs ∧ allCells v.cells = true then fillS s (setL vs i v.cells) rest else none
def evBuildSlice (P : Program) (T : TypeId) (len : Nat) (parts : List (Nat × SA)) (st : St) (k : SV → St → Prop) : Prop :=
  match P.underlying T with
  | some (.slice e) =>
    match tZero P e, tSize P e with
    | some z, some s =>
      match decide (0 < s ∧ z.cells.size = s ∧ len * s ≤ 2 ^ 24 ∧ allCells (z.cells.toList.map .raw) = true) with
      | true =>
        opt (fillS s (repL len (z.cells.toList.map .raw)) parts) fun vs =>
          k (.sa (.one (.sl (lenL st) 0 len none))) (st ++ [some (.mem true .whole e s (.lst vs))])
      | false => False
    | _, _ => False
  | _ => False
def evNilCheck : SA → St → Option SA
  | .one (.ptr o i j), _ => some (.one (.ptr o i j))
  | .one (.ref o), st => match st.get o with
    | some (.clo (.func _) _ _) => some (.one (.ref o))
    | some (.lp ..) => some (.one (.ref o))
    | _ => none
  | .one (.raw (.func (.func f) a b)), _ => some (.one (.raw (.func (.func f) a b)))
  | _, _ => none
def evFieldAddr (P : Program) (S : TypeId) (x : SA) (f : Nat) : Option SA :=
  match x, P.underlying S with
  | .one (.ptr o i j), some (.struct fs) =>
    match fs.toList[f]? with
    | some fd => match tSize P fd.type with
      | some (_ + 1) => some (.one (.ptr o i (j + fd.offset)))
      | _ => none
    | none => none
  | _, _ => none
def evField (P : Program) (T : TypeId) (x : SA) (f : Nat) : Option SA :=
  match x, P.underlying T with
  | .agg l, some (.struct fs) =>
    match fs.toList[f]? with
    | some fd => readAt P fd.type l fd.offset
    | none => none
  | _, _ => none
def evBound (d : Nat) (x : Option SA) (top : Nat) (k : Nat → Prop) : Prop :=
  match x with
  | none => k d
  | some (.one (.raw (.int _ z))) => need (decide (0 ≤ z)) (need (decide (z ≤ top)) (k z.toNat))
  | _ => False
def cutKnown (o i c l n q : Nat) (st : St) (k : SV → St → Prop) : Prop :=
  branch (decide (c = l)) (k (.sa (.one (.sl o i 0 (some 0)))) st) (k (.sa (.one (.sl o (i + l) n (some q)))) st)
def evSlice3 (P : Program) (T : TypeId) (st : St) (x : SA) (lo : Option SA) (hi mx : SA) (k : SV → St → Prop) : Prop :=
  match P.underlying T, x with
  | some (.slice e), .one (.sl o i _ c) =>
    match st.get o, tSize P e with
    | some (.mem _ mk _ m ct), some s =>
      match decide (m = s), (match mk, c with | .ext, none => false | .row, none => false | _, _ => true) with
      | true, true =>
        evBound 0 (some mx) (c.getD (ct.len - i)) fun mm => evBound 0 (some hi) mm fun h => evBound 0 lo h fun l =>
          need (decide (i + l ≤ ct.len)) (cutKnown o i mm l (h - l) (mm - l) st k)
      | _, _ => False
    | some (.own _ _ _ m ct), some s => match decide (m = s), c with
      | true, none => need (decide (0 < ct.len)) (evBound 0 (some mx) (ct.len - i) fun mm => evBound 0 (some hi) mm fun h => evBound 0 lo h fun l =>
          need (decide (i + l ≤ ct.len)) (cutKnown o i mm l (h - l) (mm - l) st k))
      | _, _ => False
    | _, _ => False
  | some (.slice e), .one (.ref q) =>
    match st.list q with
    | some (o, i, n) => match st.roomy o, tSize P e with
      | some (m, ct), some s => match decide (m = s) with
        | true =>
          need (decide (i + n ≤ ct.len)) (evBound 0 (some mx) n fun mm => evBound 0 (some hi) mm fun h => evBound 0 lo h fun l =>
              (branch (decide (mm = l)) (k (.sa (.one (.ref (lenL st)))) (st ++ [some (.own true .row e m (ct.sub 0 0))]))
                (k (.sa (.one (.sl o (i + l) (h - l) (some (mm - l))))) st)))
        | false => False
      | _, _ => False
    | none => False
  | some (.slice e), .one (.raw (.slice none _ c)) =>
    match tSize P e with
    | none => False
    | some _ => evBound 0 (some mx) c fun mm => evBound 0 (some hi) mm fun h => evBound 0 lo h fun l => k (.sa (.one (.raw (.slice none (h - l) (mm - l))))) st
  | _, _ => False
def evSlice (P : Program) (T : TypeId) (st : St) (x : SA) (lo hi : Option SA) (k : SV → St → Prop) : Prop :=
  match P.underlying T, x with
  | some (.slice e), .one (.sl o i n (some c)) =>
    match st.rows o, tSize P e with
    | some (m, ct), some s =>
      match decide (m = s) with
      | true => evBound n hi c fun h => evBound 0 lo h fun l =>
          need (decide (i + l ≤ ct.len)) (need (decide (h ≤ c)) (cutKnown o i c l (h - l) (c - l) st k))
      | false => False
    | _, _ => False
  | some (.slice e), .one (.sl o i n none) =>
    match st.get o, tSize P e with
    | some (.mem _ mk _ m ct), some s =>
      match decide (m = s), mk with
      | true, .whole => evBound n hi (ct.len - i) fun h => evBound 0 lo h fun l =>
          need (decide (i + h ≤ ct.len))
            (branch (decide (ct.len - i = l)) (k (.sa (.one (.sl o i 0 (some 0)))) st) (k (.sa (.one (.sl o (i + l) (h - l) none))) st))
      | _, _ => False
    | some (.own _ _ _ m ct), some s =>
      match decide (m = s) with
      | true => need (decide (0 < ct.len ∧ n ≤ ct.len - i)) (evBound n hi (ct.len - i) fun h => evBound 0 lo h fun l =>
          need (decide (l ≤ h)) (k (.sa (.one (.ref (lenL st)))) (st ++ [some (.part o (i + l) (h - l))])))
      | false => False
    | _, _ => False
  | some (.slice e), .one (.ref q) =>
    match st.list q with
    | some (o, i, n) => match st.roomy o, tSize P e with
      | some (m, ct), some s => match decide (m = s) with
        | true => need (decide (i + n ≤ ct.len)) (evBound n hi (ct.len - i) fun h => evBound 0 lo h fun l =>
            (need (decide (l ≤ h)) (k (.sa (.one (.ref (lenL st)))) (st ++ [some (.part o (i + l) (h - l))]))))
        | false => False
      | _, _ => False
    | none => False
  | some (.slice e), .one (.raw (.slice none n c)) =>
    match tSize P e with
    | some _ => evBound n hi c fun h => evBound 0 lo h fun l => need (decide (l ≤ h)) (k (.sa (.one (.raw (.slice none (h - l) (c - l))))) st)
    | none => False
  | some .string, .one (.raw (.string s)) =>
    evBound s.size hi s.size fun h => evBound 0 lo h fun l => k (.sa (.one (.raw (.string (s.extract l h))))) st
  | some (.array len e), .one (.ptr o i j) =>
    match st.get o, tSize P e with
    | some (.mem _ _ _ m ct), some s =>
      -- only an array that is laid as a row of its elements can be cut
      match decide (m = s ∧ j = 0) with
      | true => evBound len hi len fun h => evBound 0 lo h fun l =>
          need (decide (i + len ≤ ct.len)) (need (decide (h ≤ len)) (cutKnown o i len l (h - l) (len - l) st k))
      | false => False
    | _, _ => False
  | _, _ => False
end Go.Ev

/- THE ENGINE, part 2: builtins, maps, calls, regions, code. Definitions alone. -/
namespace Go.Ev
open Go
def pushAll (n : Nat) (cs : List Col) : List (List SC) → Option (List Col)
  | [] => some cs
  | e :: r => match zipO (Col.push n) cs e with | some cs' => pushAll (n + 1) cs' r | none => none
def Col.app (n m : Nat) : Col → Col → Option Col
  | .ints k xs, .ints k' ys => if k = k' then some (.ints k (fitL 0 n xs ++ fitL 0 m ys)) else none
  | .bools xs, .bools ys => some (.bools (fitL false n xs ++ fitL false m ys))
  | .data k xs, .data k' ys => if k = k' then some (.data k (fitL [] n xs ++ fitL [] m ys)) else none
  | _, _ => none
def colsApp (n m : Nat) : List Col → List Col → Option (List Col)
  | [], [] => some []
  | c :: r, e :: es => match c.app n m e, colsApp n m r es with
    | some c', some r' => some (c' :: r')
    | _, _ => none
  | _, _ => none
def setAll (n i : Nat) (cs : List Col) : List (List SC) → Option (List Col)
  | [] => some cs
  | e :: r => match zipO (Col.set n i) cs e with | some cs' => setAll n (i + 1) cs' r | none => none
def Col.over (n i m : Nat) : Col → Col → Option Col
  | .ints k xs, .ints k' b => if k = k' then some (.ints k ((fitL 0 n xs).take i ++ fitL 0 m b ++ (fitL 0 n xs).drop (i + m))) else none
  | .bools xs, .bools b => some (.bools ((fitL false n xs).take i ++ fitL false m b ++ (fitL false n xs).drop (i + m)))
  | .data k xs, .data k' b => if k = k' then some (.data k ((fitL [] n xs).take i ++ fitL [] m b ++ (fitL [] n xs).drop (i + m))) else none
  | _, _ => none
def colsOver (n i m : Nat) : List Col → List Col → Option (List Col)
  | [], [] => some []
  | c :: r, e :: es => match c.over n i m e, colsOver n i m r es with
    | some c', some r' => some (c' :: r')
    | _, _ => none
  | _, _ => none
def Ct.app : Ct → Ct → Option Ct
  | .lst a, .lst b => some (.lst (a ++ b))
  | .ints k a, .ints k' b => if k = k' then some (.ints k (a ++ b)) else none
  | .ints k a, .lst b => match intsOf k b with
    | some l => some (.ints k (a ++ l))
    | none => none
  | .lst [], .ints k b => some (.ints k b)
  | .lst [], .tab n b => some (.tab n b)
  | .tab n a, .lst b => match pushAll n a b with | some c => some (.tab (n + lenL b) c) | none => some (.ext n a b)
  | .tab n a, .tab m b => match colsApp n m a b with | some c => some (.tab (n + m) c) | none => none
  | _, _ => none
def Ct.over (ct : Ct) (i : Nat) (new : Ct) : Option Ct :=
  match ct, new with
  | .lst vs, .lst b => some (.lst (takeL i vs ++ b ++ dropL (i + lenL b) vs))
  | .lst vs, .ints k b => some (.lst (takeL i vs ++ b.map (fun x => [SC.raw (.int k x)]) ++ dropL (i + b.length) vs))
  | .ints k xs, .ints k' b => if k = k' then some (.ints k (xs.take i ++ b ++ xs.drop (i + b.length))) else none
  | .ints k xs, .lst b => match intsOf k b with
    | some l => some (.ints k (xs.take i ++ l ++ xs.drop (i + l.length)))
    | none => none
  | .tab n a, .lst b => match setAll n i a b with | some c => some (.tab n c) | none => none
  | .tab n a, .tab m b => match colsOver n i m a b with | some c => some (.tab n c) | none => none
  | _, _ => none
def evSrc (st : St) (s : Nat) (x : SA) (k : Ct → Prop) : Prop :=
  match x with
  | .one (.raw (.slice _ 0 _)) => k (.lst [])
  | .one (.raw (.string b)) => match decide (s = 1) with
    | true => k (Ct.ints .u8 (strInts b))
    | false => False
  | .one c => match c.list st with
    | some (o, i, n) => match st.rows o with
      | some (m, ct) => match decide (m = s) with
        | true => need (decide (i + n ≤ ct.len)) (k (ct.sub i n))
        | false => False
      | none => False
    | none => False
  | _ => False
def zeroCols (n : Nat) : List Value → Option (List Col)
  | [] => some []
  | .int k 0 :: r => match zeroCols n r with | some l => some (.ints k (List.replicate n 0) :: l) | none => none
  | .bool false :: r => match zeroCols n r with | some l => some (.bools (List.replicate n false) :: l) | none => none
  | _ => none
def zeroCt (n : Nat) (z : List Value) : Ct :=
  match z with
  | [.int k 0] => .ints k (List.replicate n 0)
  | z => match zeroCols n z with
    | some cs => .tab n cs
    | none => .lst (repL n (z.map .raw))
def zeroLikeC (n : Nat) : List Col → List Value → Option (List Col)
  | [], [] => some []
  | .ints k _ :: cs, .int k' 0 :: r => if k = k' then (match zeroLikeC n cs r with | some l => some (.ints k (List.replicate n 0) :: l) | none => none) else none
  | .bools _ :: cs, .bool false :: r => match zeroLikeC n cs r with | some l => some (.bools (List.replicate n false) :: l) | none => none
  | .data k _ :: cs, .slice none 0 0 :: r => match zeroLikeC n cs r with | some l => some (.data k (List.replicate n []) :: l) | none => none
  | _, _ => none
def zeroLike (ct : Ct) (n : Nat) (z : List Value) : Ct := match ct with
  | .tab _ cs => match zeroLikeC n cs z with
    | some l => .tab n l
    | none => zeroCt n z
  | _ => zeroCt n z
def notInt : Option TypeDesc → Bool
  | some (.int _) => false
  | none => false
  | _ => true
def tBytes (P : Program) (t : TypeId) : Option Nat := (P.info? t).map (·.bytes)
def colsOf : List SC → Option (List Col)
  | [] => some []
  | .raw (.int k x) :: r => match colsOf r with | some l => some (.ints k [x] :: l) | none => none
  | .raw (.bool x) :: r => match colsOf r with | some l => some (.bools [x] :: l) | none => none
  | .dat k x :: r => match colsOf r with | some l => some (.data k [x] :: l) | none => none
  | _ => none
def Ct.canon : Ct → Ct
  | .lst ([.raw (.int k x)] :: r) => match intsOf k r with | some l => .ints k (x :: l) | none => .lst ([.raw (.int k x)] :: r)
  | .lst (e :: r) => match colsOf e with
    | some cs => match pushAll 1 cs r with | some cs' => .tab (1 + lenL r) cs' | none => .lst (e :: r)
    | none => .lst (e :: r)
  | ct => ct
def evGrown (st : St) (e s bytes n : Nat) (old new : Ct) (k : SV → St → Prop) : Prop :=
  need (decide ((n + new.len) * bytes ≤ 2 ^ 47))
    (opt (old.app new) fun ct' => k (.sa (.one (.ref (lenL st)))) (st ++ [some (.own true .row e s ct'.canon)]))
def evPutKnown (o i n c : Nat) (so : SO) (ct : Ct) (st : St) (new : Ct) (k : SV → St → Prop) : Prop :=
  match so.can with
  | true => need (decide (i + n + new.len ≤ ct.len)) (opt (ct.over (i + n) new) fun ct' => k (.sa (.one (.sl o i (n + new.len) (some c)))) (st.put o (some (so.setCt ct'))))
  | _ => False
def Ct.some? : Ct → Bool
  | .lst [] => false
  | _ => true
def evPutEnd (w : Bool) (mk : MK) (T' m : Nat) (ct : Ct) (st : St) (o i n : Nat) (new : Ct) (k : SV → St → Prop) : Prop :=
  match w && ct.some? with
  | true => branch (decide (new.len = 0)) (k (.sa (.one (.sl o i n none))) st)
      (opt (ct.over (i + n) new) fun ct' => k (.sa (.one (.sl o i (n + new.len) none))) (st.put o (some (.mem true mk T' m ct'))))
  | false => need (decide (new.len = 0)) (k (.sa (.one (.sl o i n none))) st)
def evAppendAt (st : St) (e s bytes o i n : Nat) (c : Option Nat) (new : Ct) (k : SV → St → Prop) : Prop :=
  match st.get o with
  | some (.mem w mk T' m ct) =>
    match decide (m = s), c, mk with
    | true, some c, _ =>
      -- a capacity that is known
      need (decide (n ≤ c)) (branch (decide (n + new.len ≤ c))
        (branch (decide (new.len = 0)) (k (.sa (.one (.sl o i n (some c)))) st)
          (evPutKnown o i n c (.mem w mk T' m ct) ct st new k))
        (need (decide (i + n ≤ ct.len)) (evGrown st e s bytes n (ct.sub i n) new k)))
    | true, none, .whole =>
      branch (decide (i + n + new.len ≤ ct.len))
        (evPutEnd w .whole T' m ct st o i n new k)
        (need (decide (i + n ≤ ct.len)) (evGrown st e s bytes n (ct.sub i n) new k))
    | _, _, _ => False
  | some (.own w mk T' m ct) =>
    match decide (m = s), c with
    | true, some c =>
      need (decide (n ≤ c)) (branch (decide (n + new.len ≤ c))
        (branch (decide (new.len = 0)) (k (.sa (.one (.sl o i n (some c)))) st)
          (evPutKnown o i n c (.own w mk T' m ct) ct st new k))
        (need (decide (i + n ≤ ct.len)) (evGrown st e s bytes n (ct.sub i n) new k)))
    | _, _ => False
  | _ => False
def evAppendRow (e s bytes : Nat) (st : St) (o i n : Nat) (new : Ct) (k : SV → St → Prop) : Prop :=
  match st.get o with
  | some (.own true .row T' m ct) => match decide (m = s ∧ T' = e) with
    | true => need (decide (i + n ≤ ct.len)) (branch (decide (0 < n + new.len ∧ i + n + new.len ≤ ct.len))
        (opt (ct.over (i + n) new) fun ct' => k (.sa (.one (.sl o i (n + new.len) none))) (st.put o (some (.own true .row T' m ct'))))
        (evGrown (st.put o none) e s bytes n (ct.sub i n) new k))
    | false => False
  | _ => False
def evAppendRef (e s bytes : Nat) (st : St) (q : Nat) (new : Ct) (k : SV → St → Prop) : Prop :=
  match st.get q with
  | some (.own true .row T' m ct) => match decide (m = s ∧ T' = e) with
    | true => evGrown (st.put q none) e s bytes ct.len ct new k
    | false => False
  | some (.own false _ _ _ _) => need (decide (new.len = 0)) (k (.sa (.one (.ref q))) st)
  | some (.part o i n) => match st.roomy o with
    | some (m, ct) => match decide (m = s) with
      | true => need (decide (i + n ≤ ct.len)) (branch (decide (new.len = 0)) (k (.sa (.one (.ref q))) st) (evAppendRow e s bytes st o i n new k))
      | false => False
    | none => False
  | _ => False
def St.patOf (st : St) (a : SA) : Pat := match a with
  | .one c => match c.list st with
    | some (o, _, _) => match st.rows o with
      | some (_, ct) => ct.pat
      | none => []
    | none => []
  | _ => []
def tPat1 (P : Program) (t : TypeId) : Pat := match P.underlying t with
  | some (.slice e) => match P.underlying e with
    | some (.int k) => [some k]
    | _ => [none]
  | _ => match tSize P t with
    | some s => repL s none
    | none => []
def fPat (P : Program) : List Field → Pat
  | [] => []
  | f :: r => (match P.underlying f.type with
    | some (.struct fs) => fs.toList.foldr (fun g p => tPat1 P g.type ++ p) []
    | _ => tPat1 P f.type) ++ fPat P r
def tPat (P : Program) (e : TypeId) : Pat := match P.underlying e with
  | some (.struct fs) => fPat P fs.toList
  | _ => tPat1 P e
def evAppendWith (P : Program) (ice : Bool × Bool) (e s bytes : Nat) (st : St) (a : SA) (new : Ct) (k : SV → St → Prop) : Prop :=
  match a with
  | .one (.raw (.slice none 0 0)) => frzCt (match ice.1 with | true => tPat P e | false => []) new st fun new st => evGrown st e s bytes 0 (.lst []) new k
  | .one (.sl o i n (some c)) => frzCt (st.patOf (.one (.sl o i n (some c)))) new st fun new st => evAppendAt st e s bytes o i n (some c) new k
  | .one (.sl o i n none) => frzCt (st.patOf (.one (.sl o i n none))) new st fun new st => match st.get o with
    | some (.own ..) => need (decide (0 < n)) (evAppendRow e s bytes st o i n new k)
    | _ => evAppendAt st e s bytes o i n none new k
  | .one (.ref q) => frzCt (match ice.2 with | true => [] | false => st.patOf (.one (.ref q))) new st fun new st => evAppendRef e s bytes st q new k
  | _ => False
def evMore (P : Program) (T2 : TypeId) (s bytes : Nat) (z : Value) (st : St) (x : SA) (k : Ct → Prop) : Prop :=
  match notInt (P.underlying T2) with
  | true => evSrc st s x k
  | false => match P.underlying T2, x with
    | some (.int _), .one (.raw (.int _ l)) =>
      match allCells (z.cells.toList.map .raw) with
      | true => need (decide (0 ≤ l)) (need (decide (l < 2 ^ 63)) (need (decide (l * bytes ≤ 2 ^ 48)) (k (zeroCt l.toNat z.cells.toList))))
      | false => False
    | _, _ => False
def evAppend (P : Program) (ice : Bool × Bool) (T T2 : TypeId) (st : St) (a x : SA) (k : SV → St → Prop) : Prop :=
  match P.underlying T with
  | some (.slice e) =>
    match tSize P e, tBytes P e, tZero P e with
    | some s, some bytes, some z =>
      match decide (0 < s ∧ 0 < bytes ∧ z.cells.size = s ∧ allCells (z.cells.toList.map .raw) = true) with
      | true =>
        evMore P T2 s bytes z st x fun new => evAppendWith P ice e s bytes st a new k
      | false => False
    | _, _, _ => False
  | _ => False
def lenV : List VE → Nat
  | [] => 0
  | e :: r => match e.val with | some _ => lenV r + 1 | none => lenV r
def evLen (P : Program) (T : TypeId) (st : St) (x : SA) (k : SV → Prop) : Prop :=
  match P.underlying T, x with
  | some (.slice _), .one (.sl _ _ n _) => k (.sa (.one (.raw (.int .i64 n))))
  | some (.slice _), .one (.raw (.slice _ n _)) => k (.sa (.one (.raw (.int .i64 n))))
  | some (.slice _), .one (.ref q) => match st.list q with
    | some (_, _, n) => k (.sa (.one (.raw (.int .i64 n))))
    | none => False
  | some .string, .one (.raw (.string s)) => k (.sa (.one (.raw (.int .i64 s.size))))
  | some (.array n _), _ => k (.sa (.one (.raw (.int .i64 n))))
  | some (.pointer arr), _ => match P.underlying arr with
    | some (.array n _) => k (.sa (.one (.raw (.int .i64 n))))
    | _ => False
  | some (.map _ _), .one (.raw (.map none)) => k (.sa (.one (.raw (.int .i64 0))))
  | some (.map _ _), .one (.ref o) => match st.get o with
    | some (.mp _ es _) => k (.sa (.one (.raw (.int .i64 (lenL es)))))
    | some (.mt _ kc _ _ _ _) => k (.sa (.one (.raw (.int .i64 (kc.len : Nat)))))
    | some (.mv _ _ es rs _ _) => k (.sa (.one (.raw (.int .i64 (lenV es + rs.length : Nat)))))
    | _ => False
  | _, _ => False
def evCap (P : Program) (T : TypeId) (st : St) (x : SA) (k : SV → Prop) : Prop :=
  match P.underlying T, x with
  | some (.slice _), .one (.sl _ _ _ (some c)) => k (.sa (.one (.raw (.int .i64 c))))
  | some (.slice _), .one (.sl o i _ none) => match st.get o with
    | some (.mem _ .whole _ _ ct) => k (.sa (.one (.raw (.int .i64 ((ct.len - i : Nat) : Int)))))
    | _ => False
  | some (.slice _), .one (.raw (.slice _ _ c)) => k (.sa (.one (.raw (.int .i64 c))))
  | _, _ => False
def evCopyWith (s : Nat) (st : St) (d : SA) (new : Ct) (k : SV → St → Prop) : Prop :=
  match d with
  | .one (.raw (.slice none 0 _)) => k (.sa (.one (.raw (.int .i64 0)))) st
  | .one c => match c.list st with
    | some (o, i, n) => match st.get o with
      | some so => match so.can, so.rows with
        | true, some (m, ct) => match decide (m = s) with
          | true => need (decide (i + n ≤ ct.len)) (branch (decide (n = 0)) (k (.sa (.one (.raw (.int .i64 0)))) st)
              (opt (ct.over i (new.sub 0 (Nat.min new.len n))) fun ct' =>
                k (.sa (.one (.raw (.int .i64 (Nat.min new.len n : Nat))))) (st.put o (some (so.setCt ct')))))
          | false => False
        | _, _ => False
      | none => False
    | none => False
  | _ => False
def evCopy (P : Program) (T : TypeId) (st : St) (d x : SA) (k : SV → St → Prop) : Prop :=
  match P.underlying T with
  | some (.slice e) =>
    match tSize P e with
    | some s =>
      evSrc st s x fun new => evCopyWith s st d new k
    | none => False
  | _ => False
def evClear (P : Program) (T : TypeId) (st : St) (x : SA) (k : SV → St → Prop) : Prop :=
  match P.underlying T, x with
  | some (.slice _), .one (.raw (.slice none _ _)) => k (.tup []) st
  | some (.slice e), .one c => match c.list st with
    | some (o, i, n) => match tSize P e, tZero P e, st.get o with
      | some s, some z, some so => match so.can, so.rows with
        | true, some (m, ct) => match decide (m = s ∧ z.cells.size = s ∧ allCells (z.cells.toList.map .raw) = true) with
          | true => need (decide (i + n ≤ ct.len)) (branch (decide (n = 0)) (k (.tup []) st) (opt (ct.over i (zeroLike ct n z.cells.toList)) fun ct' =>
              k (.tup []) (st.put o (some (so.setCt ct')))))
          | false => False
        | _, _ => False
      | _, _, _ => False
    | none => False
  | some (.map _ _), .one (.ref o) => match st.get o with
    | some (.mp true _ cl) => k (.tup []) (st.put o (some (.mp true [] cl)))
    | _ => False
  | _, _ => False
def isNil {α : Type} : List α → Bool
  | [] => true
  | _ :: _ => false
def plainKey : TypeDesc → Bool
  | .int _ | .string | .bool => true
  | _ => false
def evSame (P : Program) (kt : TypeId) (d : TypeDesc) (a b : Value) : Option Bool :=
  match plainKey d with
  | true => Instr.sameNow d a b
  | false => pureSem P (Op.equal kt a b)
def evFind (P : Program) (kt : TypeId) (d : TypeDesc) (x : Value) : List SE → Nat → (Option (Nat × SE) → Prop) → Prop
  | [], _, K => K none
  | e :: es, i, K => match evSame P kt d x e.key with
    | some b => branch b (K (some (i, e))) (evFind P kt d x es (i + 1) K)
    | none => False
def SA.raw? : SA → Option Value
  | .one (.raw v) => some v
  | .one _ => none
  | .agg l => match rawL l with | some vs => some (.agg vs.toArray) | none => none
def okKey (P : Program) (empty : Bool) (kt : TypeId) (x : Value) : Bool :=
  match pureSem P (Instr.checkKey empty 10000 kt x) with | some _ => true | none => false
def evFound (z : Value) (ok : Bool) (k : SV → Prop) (r : Option (Nat × SE)) : Prop :=
  match r with
  | some (_, en) => match ok with
    | true => k (.tup [en.val, .one (.raw (.bool true))])
    | false => k (.sa en.val)
  | none => match ok with
    | true => k (.tup [SA.ofValue z, .one (.raw (.bool false))])
    | false => k (.sa (SA.ofValue z))
def evLookup (P : Program) (T : TypeId) (st : St) (m ix : SA) (ok : Bool) (k : SV → Prop) : Prop :=
  match P.underlying T, ix.raw? with
  | some (.map kt e), some x =>
    match tZero P e, P.underlying kt with
    | some z, some d =>
      match m with
      | .one (.raw (.map none)) => match okKey P true kt x with
        | true => evFound z ok k none
        | false => False
      | .one (.ref o) => match st.get o with
        | some (.mp _ es _) => match okKey P (isNil es) kt x with
          | true => evFind P kt d x es 0 (evFound z ok k)
          | false => False
        | _ => False
      | _ => False
    | _, _ => False
  | _, _ => False
def setVal : List SE → Nat → Value → SA → List SE
  | [], _, _, _ => []
  | e :: r, 0, x, v => { e with key := x, val := v } :: r
  | e :: r, n + 1, x, v => e :: setVal r n x v
def setKey : List SE → Nat → Value → List SE
  | [], _, _ => []
  | e :: r, 0, x => { e with key := x } :: r
  | e :: r, n + 1, x => e :: setKey r n x
def eraseAt {α : Type} : List α → Nat → List α
  | [], _ => []
  | _ :: r, 0 => r
  | e :: r, n + 1 => e :: eraseAt r n
def evStays (d : TypeDesc) (old x : Value) (p : Prop) : Prop :=
  match plainKey d with
  | true => p
  | false => need (Instr.sameBits 10000 old x) p
def evUpdWith (d : TypeDesc) (x : Value) (v : SA) (es : List SE) (cl : Nat) (st : St) (o : Nat) (r : Option (Nat × SE)) (k : St → Prop) : Prop :=
  match r with
  | some (i, en) => evStays d en.key x (k (st.put o (some (.mp true (setVal es i x v) cl))))
  | none => k (st.put o (some (.mp true (es ++ [{ key := x, val := v, born := cl }]) (cl + 1))))
def evMapUpdate (P : Program) (T : TypeId) (st : St) (m ix v : SA) (k : St → Prop) : Prop :=
  match P.underlying T, ix.raw? with
  | some (.map kt _), some x =>
    match P.underlying kt, m with
    | some d, .one (.ref o) =>
      match st.get o with
      | some (.mp true es cl) => match okKey P false kt x with
        | true => evFind P kt d x es 0 fun r => evUpdWith d x v es cl st o r k
        | false => False
      | _ => False
    | _, _ => False
  | _, _ => False
def evDelWith (es : List SE) (cl : Nat) (st : St) (o : Nat) (r : Option (Nat × SE)) (k : St → Prop) : Prop :=
  match r with
  | some (i, _) => k (st.put o (some (.mp true (eraseAt es i) cl)))
  | none => k st
def evDelete (P : Program) (T : TypeId) (st : St) (m ix : SA) (k : St → Prop) : Prop :=
  match P.underlying T, ix.raw? with
  | some (.map kt _), some x =>
    match P.underlying kt, m with
    | some d, .one (.ref o) =>
      match st.get o with
      | some (.mp true es cl) => match okKey P (isNil es) kt x with
        | true => evFind P kt d x es 0 fun r => evDelWith es cl st o r k
        | false => False
      | _ => False
    | _, _ => False
  | _, _ => False
def evBytes (P : Program) (st : St) (e : TypeId) (o i n : Nat) (k : SV → St → Prop) : Prop :=
  match P.underlying e, st.rows o with
  | some (.int .u8), some (m, ct) => match decide (m = 1) with
    | true => need (decide (i + n ≤ ct.len)) (opt (ctInts .u8 (ct.sub i n)) fun l => k (.sa (.one (.raw (.string (strOf l))))) st)
    | false => False
  | _, _ => False
def evConvert (P : Program) (T T' : TypeId) (st : St) (x : SA) (k : SV → St → Prop) : Prop :=
  match x with
  | .one (.raw (.string s)) =>
    match P.underlying T, P.underlying T' with
    | some .string, some .string => k (.sa (.one (.raw (.string s)))) st
    | some .string, some (.slice e) => match P.underlying e with
      | some (.int .u8) => k (.sa (.one (.ref (lenL st)))) (st ++ [some (.own true .row e 1 (.ints .u8 (strInts s)))])
      | _ => False
    | _, _ => False
  | .one (.raw v) => opt (pureSem P (convert T T' v)) fun r => k (.sa (.one (.raw r))) st
  | .one (.sl o i n c) =>
    match P.underlying T, P.underlying T' with
    | some (.slice e), some .string => evBytes P st e o i n k
    | some (.slice _), some (.slice e) => match decide (T = T' ∧ i = 0 ∧ c = none), P.underlying e, st.get o with
      | true, some (.int .u8), some (.mem true .whole T1 1 ct) => need (decide (n = ct.len)) (k (.sa (.one (.ref (lenL st)))) (st.put o none ++ [some (.own true .row T1 1 ct)]))
      | _, _, _ => False
    | _, _ => False
  | .one (.ref q) => match P.underlying T, P.underlying T' with
    | some (.slice e), some .string => match st.list q with
      | some (o, i, n) => evBytes P st e o i n k
      | none => False
    | _, _ => False
  | _ => False
def evMakeSlice (P : Program) (T : TypeId) (st : St) (l c : SA) (k : SV → St → Prop) : Prop :=
  match P.underlying T, l, c with
  | some (.slice e), .one (.raw (.int _ l)), .one (.raw (.int _ c)) =>
    match tZero P e, tSize P e, tBytes P e with
    | some z, some s, some bytes =>
      match decide (0 < s ∧ z.cells.size = s ∧ allCells (z.cells.toList.map .raw) = true) with
      | true => need (decide (0 ≤ l)) (need (decide (l ≤ c)) (need (decide (c * bytes ≤ 2 ^ 47)) (need (decide (c < 2 ^ 63))
          (k (.sa (.one (.sl (lenL st) 0 l.toNat none))) (st ++ [some (.mem true .whole e s (zeroCt c.toNat z.cells.toList))])))))
      | false => False
    | _, _, _ => False
  | _, _, _ => False
def evEntryWith (d : TypeDesc) (x z : Value) (es : List SE) (cl : Nat) (st : St) (o : Nat) (r : Option (Nat × SE)) (k : SV → St → Prop) : Prop :=
  match r with
  | some (i, en) => evStays d en.key x (k (.tup [en.val, .one (.raw (.int .i64 en.born))]) (st.put o (some (.mp true (setKey es i x) cl))))
  | none => k (.tup [SA.ofValue z, .one (.raw (.int .i64 cl))]) (st.put o (some (.mp true (es ++ [{ key := x, val := SA.ofValue z, born := cl }]) (cl + 1))))
def evMapEntry (P : Program) (T : TypeId) (st : St) (m ix : SA) (k : SV → St → Prop) : Prop :=
  match P.underlying T, ix.raw? with
  | some (.map kt e), some x =>
    match P.underlying kt, m, tZero P e with
    | some d, .one (.ref o), some z =>
      match st.get o with
      | some (.mp true es cl) => match okKey P false kt x with
        | true => evFind P kt d x es 0 fun r => evEntryWith d x z es cl st o r k
        | false => False
      | _ => False
    | _, _, _ => False
  | _, _ => False
def setBorn : List SE → Int → SA → Option (List SE)
  | [], _, _ => none
  | e :: r, b, v => match decide ((e.born : Int) = b) with
    | true => some ({ e with val := v } :: r)
    | false => match setBorn r b v with | some l => some (e :: l) | none => none
def evEntryStore (st : St) (m s v : SA) (k : St → Prop) : Prop :=
  match m, s with
  | .one (.ref o), .one (.raw (.int _ b)) => match st.get o with
    | some (.mp true es cl) => match setBorn es b v with
      | some es' => k (st.put o (some (.mp true es' cl)))
      | none => False
    | _ => False
  | _, _ => False
def KC.fits (P : Program) (kt : TypeId) (kc : KC) : Bool := match P.underlying kt, kc with
  | some (.int k), .ints k' _ => decide (k = k')
  | some .string, .strs _ => true
  | _, _ => false
def valAt (va : Bool) (cs : List Col) (i : Nat) : SA := match va with
  | true => .agg (colsAt i cs)
  | false => match colsAt i cs with
    | [c] => .one c
    | l => .agg l
def lookK (ok : Bool) (k : SV → St → Prop) (v : SV) (s : St) : Prop := match ok with
  | true => match v with
    | .sa a => k (.tup [a, .one (.raw (.bool true))]) s
    | _ => False
  | false => k v s
def evLookT (P : Program) (T : TypeId) (st : St) (kc : KC) (va : Bool) (cs : List Col) (ix : SA) (ok : Bool) (k : SV → St → Prop) : Prop :=
  match P.underlying T, ix with
  | some (.map kt e), .one (.raw x) =>
    match KC.fits P kt kc, tZero P e, kc.idx x with
    | true, some z, some i => branch (decide (i < kc.len)) (ghostA (valAt va cs i) st (lookK ok k)) (evFound z ok (fun v => k v st) none)
    | _, _, _ => False
  | _, _ => False
def keyCells : List IntKind → List Int → List Value
  | k :: kk, x :: xs => .int k x :: keyCells kk xs
  | _, _ => []
def keyV (kk : List IntKind) (xs : List Int) : Value := match kk, xs with
  | [k], [x] => .int k x
  | kk, xs => .agg (keyCells kk xs).toArray
def keyL : List IntKind → List SC → Option (List Int)
  | [], [] => some []
  | k :: kk, .raw (.int k' x) :: r => match decide (k = k'), keyL kk r with
    | true, some l => some (x :: l)
    | _, _ => none
  | _, _ => none
def keyOf (kk : List IntKind) (ix : SA) : Option (List Int) := match ix with
  | .one c => match kk with | [k] => keyL [k] [c] | _ => none
  | .agg l => match kk with | [_] => none | kk => keyL kk l
def eqKs : List Int → List Int → Bool
  | [], [] => true
  | [x], [y] => eqK x y
  | x :: xs, y :: ys => eqK x y && eqKs xs ys
  | _, _ => false
def kfitFs (P : Program) : List Field → List IntKind → Nat → Bool
  | [], [], _ => true
  | f :: fs, k :: kk, i => match P.underlying f.type, decide (f.name = "_"), decide (f.offset = i) with
    | some (.int k'), false, true => decide (k = k') && kfitFs P fs kk (i + 1)
    | _, _, _ => false
  | _, _, _ => false
def kfits (P : Program) (kt : TypeId) (kk : List IntKind) : Bool := match P.underlying kt, kk with
  | some (.int k), [k'] => decide (k = k')
  | some (.struct _), [_] => false
  | some (.struct fs), kk => !P.stoodInHeld kt && kfitFs P fs.toList kk 0
  | _, _ => false
def vfind (x : List Int) : List VE → Nat → (Nat → VE → Prop) → Prop
  | [], _, _ => False
  | [e], i, K => need (eqKs e.key x) (K i e)
  | e :: r, i, K => branch (eqKs e.key x) (K i e) (vfind x r (i + 1) K)
def setV : List VE → Nat → Option SA → Nat → List VE
  | [], _, _, _ => []
  | e :: r, 0, v, b => { e with val := v, born := b } :: r
  | e :: r, n + 1, v, b => e :: setV r n v b
def foundV (z : Value) (st : St) (ok : Bool) (k : SV → St → Prop) (en : VE) : Prop := match en.val with
  | some v => lookK ok k (.sa v) st
  | none => evFound z ok (fun v => k v st) none
def evLookV (P : Program) (T : TypeId) (st : St) (kk : List IntKind) (es : List VE) (ix : SA) (ok : Bool) (k : SV → St → Prop) : Prop :=
  match P.underlying T with
  | some (.map kt e) => match kfits P kt kk, tZero P e, keyOf kk ix with
    | true, some z, some x => vfind x es 0 fun _ en => foundV z st ok k en
    | _, _, _ => False
  | _ => False
def evUpdV (P : Program) (T : TypeId) (st : St) (o : Nat) (kk : List IntKind) (es : List VE) (rs : List MapEntry) (cl : Nat) (ix v : SA) (k : St → Prop) : Prop :=
  match P.underlying T with
  | some (.map kt _) => match kfits P kt kk, keyOf kk ix with
    | true, some x => vfind x es 0 fun i e => match e.val with
      | some _ => k (st.put o (some (.mv true kk (setV es i (some v) e.born) rs cl 0)))
      | none => k (st.put o (some (.mv true kk (setV es i (some v) cl) rs (cl + 1) 0)))
    | _, _ => False
  | _ => False
def evDelV (P : Program) (T : TypeId) (st : St) (o : Nat) (kk : List IntKind) (es : List VE) (rs : List MapEntry) (cl : Nat) (ix : SA) (k : St → Prop) : Prop :=
  match P.underlying T with
  | some (.map kt _) => match kfits P kt kk, keyOf kk ix with
    | true, some x => vfind x es 0 fun i e => k (st.put o (some (.mv true kk (setV es i none e.born) rs cl 0)))
    | _, _ => False
  | _ => False
def evEntV (P : Program) (T : TypeId) (st : St) (o : Nat) (kk : List IntKind) (es : List VE) (rs : List MapEntry) (cl : Nat) (ix : SA) (k : SV → St → Prop) : Prop :=
  match P.underlying T with
  | some (.map kt t) => match kfits P kt kk, tZero P t, keyOf kk ix with
    | true, some z, some x => vfind x es 0 fun i e => match e.val with
      | some v => k (.tup [v, .one (.raw (.int .i64 e.born))]) (st.put o (some (.mv true kk (setV es i (some v) e.born) rs cl i)))
      | none => k (.tup [SA.ofValue z, .one (.raw (.int .i64 cl))]) (st.put o (some (.mv true kk (setV es i (some (SA.ofValue z)) cl) rs (cl + 1) i)))
    | _, _, _ => False
  | _ => False
def evEntStV (st : St) (o : Nat) (kk : List IntKind) (es : List VE) (rs : List MapEntry) (cl hot : Nat) (s v : SA) (k : St → Prop) : Prop :=
  match es[hot]?, s with
  | some e, .one (.raw (.int _ b)) => match e.val with
    | some _ => need (eqK b e.born) (k (st.put o (some (.mv true kk (setV es hot (some v) e.born) rs cl hot))))
    | none => False
  | _, _ => False
def evLook (P : Program) (T : TypeId) (st : St) (m ix : SA) (ok : Bool) (k : SV → St → Prop) : Prop := match m with
  | .one (.ref o) => match st.get o with
    | some (.mt _ kc va cs _ _) => evLookT P T st kc va cs ix ok k
    | some (.mv _ kk es _ _ _) => evLookV P T st kk es ix ok k
    | _ => evLookup P T st m ix ok fun v => k v st
  | m => evLookup P T st m ix ok fun v => k v st
def evPutT (P : Program) (kt : TypeId) (va0 : Bool) (o : Nat) (x : Value) (cells : List SC) (st : St) (k : St → Prop) : Prop := match st.get o with
  | some (.mt true kc va cs bs cl) => match KC.fits P kt kc && (va == va0), kc.idx x with
    | true, some i => branch (decide (i < kc.len))
        (opt (zipO (Col.set kc.len i) cs cells) fun cs' => k (st.put o (some (.mt true kc va cs' bs cl))))
        (opt (zipO (Col.push kc.len) cs cells) fun cs' => k (st.put o (some (.mt true (kc.push x) va cs' (bs ++ [(cl : Int)]) (cl + 1)))))
    | _, _ => False
  | _ => False
def evUpdT (P : Program) (T : TypeId) (st : St) (o : Nat) (cs : List Col) (ix v : SA) (k : St → Prop) : Prop :=
  match P.underlying T, ix with
  | some (.map kt _), .one (.raw x) => match allCells v.cells with
    | true => frzRow (cs.map Col.pat) v.cells st fun cells st1 => evPutT P kt v.isAgg o x cells st1 k
    | false => False
  | _, _ => False
def evMapUp (P : Program) (T : TypeId) (st : St) (m ix v : SA) (k : St → Prop) : Prop := match m with
  | .one (.ref o) => match st.get o with
    | some (.mt _ _ _ cs _ _) => evUpdT P T st o cs ix v k
    | some (.mv true kk es rs cl _) => evUpdV P T st o kk es rs cl ix v k
    | _ => evMapUpdate P T st m ix v k
  | m => evMapUpdate P T st m ix v k
def evDelT (P : Program) (T : TypeId) (st : St) (o : Nat) (ix : SA) (k : St → Prop) : Prop :=
  match P.underlying T, ix, st.get o with
  | some (.map kt _), .one (.raw x), some (.mt true kc va cs bs cl) => match KC.fits P kt kc, kc.idx x with
    | true, some i => branch (decide (i < kc.len)) (k (st.put o (some (.mt true (kc.erase i) va (cs.map (Col.erase i)) (bs.eraseIdx i) cl)))) (k st)
    | _, _ => False
  | _, _, _ => False
def evDel (P : Program) (T : TypeId) (st : St) (m ix : SA) (k : St → Prop) : Prop := match m with
  | .one (.ref o) => match st.get o with
    | some (.mt _ _ _ _ _ _) => evDelT P T st o ix k
    | some (.mv true kk es rs cl _) => evDelV P T st o kk es rs cl ix k
    | _ => evDelete P T st m ix k
  | m => evDelete P T st m ix k
def entK (b : Int) (k : SV → St → Prop) (v : SV) (s : St) : Prop := match v with
  | .sa a => k (.tup [a, .one (.raw (.int .i64 b))]) s
  | _ => False
def evEntT (P : Program) (T : TypeId) (st : St) (o : Nat) (ix : SA) (k : SV → St → Prop) : Prop :=
  match P.underlying T, ix, st.get o with
  | some (.map kt e), .one (.raw x), some (.mt true kc va cs bs cl) => match KC.fits P kt kc, kc.idx x, tZero P e with
    | true, some i, some z => branch (decide (i < kc.len)) (ghostA (valAt va cs i) st (entK (bs.getD i 0) k))
        (match allCells (SA.ofValue z).cells && (va == (SA.ofValue z).isAgg) with
          | true => opt (zipO (Col.push kc.len) cs (SA.ofValue z).cells) fun cs' =>
              k (.tup [SA.ofValue z, .one (.raw (.int .i64 cl))]) (st.put o (some (.mt true (kc.push x) va cs' (bs ++ [(cl : Int)]) (cl + 1))))
          | false => False)
    | _, _, _ => False
  | _, _, _ => False
def evMapEnt (P : Program) (T : TypeId) (st : St) (m ix : SA) (k : SV → St → Prop) : Prop := match m with
  | .one (.ref o) => match st.get o with
    | some (.mt _ _ _ _ _ _) => evEntT P T st o ix k
    | some (.mv true kk es rs cl _) => evEntV P T st o kk es rs cl ix k
    | _ => evMapEntry P T st m ix k
  | m => evMapEntry P T st m ix k
def evEntStT (st : St) (o : Nat) (s v : SA) (k : St → Prop) : Prop := match st.get o, s with
  | some (.mt true kc va cs bs cl), .one (.raw (.int _ b)) => match allCells v.cells && (va == v.isAgg) with
    | true => need (decide (idxI b bs < kc.len)) (opt (zipO (Col.set kc.len (idxI b bs)) cs v.cells) fun cs' => k (st.put o (some (.mt true kc va cs' bs cl))))
    | false => False
  | _, _ => False
def evEntSt (st : St) (m s v : SA) (k : St → Prop) : Prop := match m with
  | .one (.ref o) => match st.get o with
    | some (.mt _ _ _ _ _ _) => evEntStT st o s v k
    | some (.mv true kk es rs cl hot) => evEntStV st o kk es rs cl hot s v k
    | _ => evEntryStore st m s v k
  | m => evEntryStore st m s v k
def leafCols (P : Program) : Nat → TypeId → Option (List Col)
  | 0, _ => none
  | n + 1, T => match P.underlying T with
    | some (.int k) => some [.ints k []]
    | some .bool => some [.bools []]
    | some (.slice e) => match P.underlying e with
      | some (.int k) => some [.data k []]
      | _ => none
    | some (.struct fs) => leafFs (leafCols P n) fs.toList
    | _ => none
  where leafFs (rec : TypeId → Option (List Col)) : List Field → Option (List Col)
  | [] => some []
  | f :: r => match rec f.type, leafFs rec r with
    | some a, some b => some (a ++ b)
    | _, _ => none
def emptyMap (P : Program) (tab : Bool) (T : TypeId) : SO := match tab with
  | true => match P.underlying T with
    | some (.map kt e) => match P.underlying kt, leafCols P 5 e, tIsAgg P e with
      | some (.int k), some cs, some va => .mt true (.ints k []) va cs [] 0
      | some .string, some cs, some va => .mt true (.strs []) va cs [] 0
      | _, _, _ => .mp true [] 0
    | _ => .mp true [] 0
  | false => .mp true [] 0
def rhoSA (ρ : Operand → Option SV) (x : Operand) : Option SA := match ρ x with | some (.sa a) => some a | _ => none
def rhoSAs (ρ : Operand → Option SV) : List Operand → Option (List SA)
  | [] => some []
  | x :: r => match rhoSA ρ x, rhoSAs ρ r with
    | some a, some l => some (a :: l)
    | _, _ => none
def rhoParts (ρ : Operand → Option SV) : List (Nat × Operand) → Option (List (Nat × SA))
  | [] => some []
  | p :: r => match rhoSA ρ p.2, rhoParts ρ r with
    | some a, some l => some ((p.1, a) :: l)
    | _, _ => none
def rhoOpt (ρ : Operand → Option SV) : Option Operand → Option (Option SA)
  | none => some none
  | some x => match rhoSA ρ x with | some a => some (some a) | none => none
def undefV : SV := .tup []
def rawAll : List SA → Option (List Value)
  | [] => some []
  | .one (.raw v) :: r => match rawAll r with | some l => some (v :: l) | none => none
  | _ => none
def evBuiltin (P : Program) (ice : Bool × Bool) (b : Builtin) (ts : List TypeId) (T : TypeId) (args : List SA) (st : St) (k : SV → St → Prop) : Prop :=
  match b, ts, args with
  | .len, [t], [x] => evLen P t st x fun v => k v st
  | .cap, [t], [x] => evCap P t st x fun v => k v st
  | .append, [t, t2], [a, x] => evAppend P ice t t2 st a x k
  | .copy, t :: _, [d, x] => evCopy P t st d x k
  | .clear, [t], [x] => evClear P t st x k
  | .delete, t :: _, [m, x] => evDel P t st m x fun st' => k (.tup []) st'
  | .min, _, _ => opt (rawAll args) fun vs => opt (pureSem P (Builtin.min_ #[] T vs.toArray)) fun r => k (.sa (.one (.raw r))) st
  | .max, _, _ => opt (rawAll args) fun vs => opt (pureSem P (Builtin.max_ #[] T vs.toArray)) fun r => k (.sa (.one (.raw r))) st
  | _, _, _ => False
def big : Nat := 1000000
def evOvl (st : St) (args : List SA) (k : SV → St → Prop) : Prop :=
  match args with
  | [.one (.sl o _ _ _), .one (.sl q _ _ _)] => match Nat.beq o q, st.get o, st.get q with
    | false, some (.mem true mk T m ct), some so => match (SO.mem true mk T m ct).can, so.can, so.rows with
      | true, true, some (_, ct') => need (decide (0 < ct'.len)) (k (.sa (.one (.raw (.bool false)))) st)
      | _, _, _ => False
    | _, _, _ => False
  | _ => False
def evFn (ovl : FuncId → Bool) (call : CallT) (g : FuncId) (args : List SA) (st : St) (k : SV → St → Prop) : Prop := match ovl g with
  | true => evOvl st args k
  | false => match Nat.blt g big with
    | true => call g args st k
    | false => False
def evCallee (ovl : FuncId → Bool) (call : CallT) (f : SA) (args : List SA) (st : St) (k : SV → St → Prop) : Prop :=
  match f with
  | .one (.raw (.func (.func g) first cap)) => evFn ovl call g (first.toList.map SA.ofValue ++ args ++ cap.toList.map SA.ofValue) st k
  | .one (.ref o) => match st.get o with
    | some (.clo (.func g) first cap) => match Nat.blt g big with
      | true => call g (first ++ args ++ cap) st k
      | false => False
    | some (.lp ..) => call (big + o) args st k
    | _ => False
  | _ => False
def evPick (x y : Option SV) (st : St) (cv : SA) (k : SV → St → Prop) : Prop :=
  match cv with
  | .one (.raw (.bool t)) => branch t (opt x fun v => k v st) (opt y fun v => k v st)
  | _ => False
def evUn (P : Program) (op : UnOp) (st : St) (a : SA) (k : SV → St → Prop) : Prop :=
  match a with
  | .one (.raw v) => opt (pureSem P (Op.unary op v)) fun r => k (.sa (.one (.raw r))) st
  | _ => False
def evMakeMap (P : Program) (tab : Bool) (T : TypeId) (st : St) (a : SA) (k : SV → St → Prop) : Prop :=
  match P.underlying T, a with
  | some (.map _ _), .one (.raw (.int _ _)) => k (.sa (.one (.ref (lenL st)))) (st ++ [some (emptyMap P tab T)])
  | _, _ => False
def evSliceMax (P : Program) (T : TypeId) (st : St) (a : SA) (l : Option SA) (h : Option SA) (z : SA) (k : SV → St → Prop) : Prop :=
  match h with
  | some h => evSlice3 P T st a l h z k
  | none => False
def evOp (cx : Cx) (call : CallT) (ρ : Operand → Option SV) (st : St) (o : Oper) (k : SV → St → Prop) : Prop :=
  let P := cx.P
  match o.op with
  | .move x | .assign x => opt (ρ x) fun v => k v st
  | .pick c a b => opt (rhoSA ρ c) fun cv => evPick (ρ a) (ρ b) st cv k
  | .alloc T => opt (tZero P T) fun z => evNew P st T (z.cells.toList.map .raw) k
  | .box T x => opt (rhoSA ρ x) fun a => evNew P st T a.cells k
  | .build T ps => opt (rhoParts ρ ps.toList) fun parts => opt (evBuild P T parts) fun cs => k (.sa (.agg cs)) st
  | .buildSlice T n ps => opt (rhoParts ρ ps.toList) fun parts => evBuildSlice P T n parts st k
  | .load T x => opt (rhoSA ρ x) fun a => evLoad P T st a k
  | .store T x y => opt (rhoSA ρ x) fun a => opt (rhoSA ρ y) fun v => evStore P T st a v fun st' => k undefV st'
  | .nilCheck x => opt (rhoSA ρ x) fun a => opt (evNilCheck a st) fun b => k (.sa b) st
  | .binOp op T x y _ => opt (rhoSA ρ x) fun a => opt (rhoSA ρ y) fun b => evBin P op T x y st a b fun v => k v st
  | .unOp op _ x => opt (rhoSA ρ x) fun a => evUn P op st a k
  | .convert T T' x => opt (rhoSA ρ x) fun a => evConvert P T T' st a k
  | .makeFunc fn first cap => opt (rhoSAs ρ first.toList) fun fs => opt (rhoSAs ρ cap.toList) fun cs =>
      k (.sa (.one (.ref (lenL st)))) (st ++ [some (.clo fn fs cs)])
  | .makeMap T r => match r with
    | none => k (.sa (.one (.ref (lenL st)))) (st ++ [some (emptyMap P cx.tab T)])
    | some x => opt (rhoSA ρ x) fun a => evMakeMap P cx.tab T st a k
  | .slice T x lo hi mx => match mx with
    | none => opt (rhoSA ρ x) fun a => opt (rhoOpt ρ lo) fun l => opt (rhoOpt ρ hi) fun h => evSlice P T st a l h k
    | some y => opt (rhoSA ρ x) fun a => opt (rhoOpt ρ lo) fun l => opt (rhoOpt ρ hi) fun h => opt (rhoSA ρ y) fun z => evSliceMax P T st a l h z k
  | .fieldAddr S x f => opt (rhoSA ρ x) fun a => opt (evFieldAddr P S a f) fun b => k (.sa b) st
  | .field T x f => opt (rhoSA ρ x) fun a => opt (evField P T a f) fun b => k (.sa b) st
  | .indexAddr T x ix => opt (rhoSA ρ x) fun a => opt (rhoSA ρ ix) fun i => evIndexAddr P T st a i fun v => k v st
  | .index T x ix => opt (rhoSA ρ x) fun a => opt (rhoSA ρ ix) fun i => evIndex P T a i fun v => k v st
  | .lookup T x ix ok => opt (rhoSA ρ x) fun a => opt (rhoSA ρ ix) fun i => evLook P T st a i ok k
  | .mapUpdate T m x v => opt (rhoSA ρ m) fun a => opt (rhoSA ρ x) fun i => opt (rhoSA ρ v) fun b => evMapUp P T st a i b fun st' => k undefV st'
  | .mapEntry T m x => opt (rhoSA ρ m) fun a => opt (rhoSA ρ x) fun i => evMapEnt P T st a i k
  | .entryStore _ m s v => opt (rhoSA ρ m) fun a => opt (rhoSA ρ s) fun i => opt (rhoSA ρ v) fun b => evEntSt st a i b fun st' => k undefV st'
  | .makeSlice T l c => opt (rhoSA ρ l) fun a => opt (rhoSA ρ c) fun b => evMakeSlice P T st a b k
  | .extract x i => match ρ x with
    | some (.tup l) => opt l[i]? fun a => k (.sa a) st
    | _ => False
  | .call c => match c.callee with
    | .builtin b => opt (rhoSAs ρ c.args.toList) fun args => evBuiltin P (cx.ice, cx.ext) b c.argTypes.toList o.type args st k
    | .value f => opt (rhoSA ρ f) fun fv => opt (rhoSAs ρ c.args.toList) fun args => evCallee cx.ovl call fv args st k
    | .invoke _ _ => False
  | _ => False
def evGuard (ops : List Oper) (o : Oper) (fr : Fr) (run skip : Fr → Prop) : Prop :=
  match o.guard with
  | none => run fr
  | some (j, want) =>
    match ops[j]? with
    | none => skip fr
    | some oj => match oj.dst with
      | none => skip fr
      | some d => match fr.get d with
        | some (.sa (.one (.raw (.bool b)))) => match want with
          | true => branch b (run (fr.put (some d) (.sa (.one (.raw (.bool true)))))) (skip (fr.put (some d) (.sa (.one (.raw (.bool false))))))
          | false => branch b (skip (fr.put (some d) (.sa (.one (.raw (.bool true)))))) (run (fr.put (some d) (.sa (.one (.raw (.bool false))))))
        | some (.tup []) => skip fr
        | _ => False
def forceN (n : Nat) (k : Nat → Prop) : Prop := Nat.rec (k 0) (fun m _ => k (Nat.succ m)) n
def forceI (x : Int) (k : Int → Prop) : Prop := match x with
  | .ofNat n => forceN n fun n => k (.ofNat n)
  | .negSucc n => forceN n fun n => k (.negSucc n)
def forceV (b : Bool) (v : SV) (k : SV → Prop) : Prop := match b with
  | true => match v with
    | .sa (.one (.raw (.int kk x))) => forceI x fun x => k (.sa (.one (.raw (.int kk x))))
    | v => k v
  | false => k v
def evOps (cx : Cx) (call : CallT) (all : List Oper) : List Oper → Fr → St → (Fr → St → Prop) → Prop
  | [], fr, st, k => k fr st
  | o :: r, fr, st, k => evGuard all o fr
      (fun fr => evOp cx call (evOperand fr) st o fun v st' => forceV cx.force v fun v => evOps cx call all r (fr.put o.dst v) st' k)
      (fun fr => evOps cx call all r (fr.put o.dst undefV) st k)
def SC.refs : SC → List Nat
  | .raw _ => []
  | .ptr o _ _ | .sl o _ _ _ | .ref o => [o]
  | .dat _ _ => []
def refsL : List SC → List Nat
  | [] => []
  | c :: r => c.refs ++ refsL r
def SA.refs : SA → List Nat
  | .one c => c.refs
  | .agg l => refsL l
def refsA : List SA → List Nat
  | [] => []
  | a :: r => a.refs ++ refsA r
def SV.refs : SV → List Nat
  | .sa a => a.refs
  | .tup l => refsA l
def refsLL : List (List SC) → List Nat
  | [] => []
  | l :: r => refsL l ++ refsLL r
def refsE : List SE → List Nat
  | [] => []
  | e :: r => e.val.refs ++ refsE r
def refsV : List VE → List Nat
  | [] => []
  | e :: r => match e.val with | some v => v.refs ++ refsV r | none => refsV r
def frRefs : Fr → List Nat
  | [] => []
  | none :: r => frRefs r
  | some v :: r => v.refs ++ frRefs r
def SO.refs : SO → List Nat
  | .mem _ _ _ _ (.lst vs) => refsLL vs
  | .mem _ _ _ _ (.ext _ _ vs) => refsLL vs
  | .mem _ _ _ _ (.at1 _ _ _ e) => refsLL [e]
  | .mem _ _ _ _ _ => []
  | .part o _ _ => [o]
  | .nul => []
  | .clo _ a b => refsA a ++ refsA b
  | .mp _ es _ => refsE es
  | .mt .. => []
  | .mv _ _ es _ _ _ => refsV es
  | .abs .. => []
  | .box .. => []
  | .lp _ _ fr _ _ _ _ _ => frRefs fr
  | .own _ _ _ _ (.lst vs) => refsLL vs
  | .own _ _ _ _ (.ext _ _ vs) => refsLL vs
  | .own _ _ _ _ (.at1 _ _ _ e) => refsLL [e]
  | .own _ _ _ _ _ => []
def hasN (n : Nat) : List Nat → Bool
  | [] => false
  | m :: r => match Nat.beq n m with | true => true | false => hasN n r
def reach (st : St) : Nat → List Nat → List Nat → List Nat
  | 0, _, acc => acc
  | _, [], acc => acc
  | n + 1, o :: r, acc => match hasN o acc with
    | true => reach st n r acc
    | false => match st.get o with
      | some so => reach st n (so.refs ++ r) (acc ++ [o])
      | none => reach st n r (acc ++ [o])
def opRefs (ρ : Operand → Option SV) : List Operand → List Nat
  | [] => []
  | x :: r => match ρ x with
    | some v => v.refs ++ opRefs ρ r
    | none => opRefs ρ r
def prt (st : St) : List Nat → List Nat
  | [] => []
  | o :: r => match st.get o with
    | some (.part p _ _) => o :: p :: prt st r
    | _ => o :: prt st r
def patData : Pat → Bool
  | [] => false
  | some _ :: _ => true
  | none :: r => patData r
def patAt (ρ : Operand → Option SV) (st : St) (xs : List Operand) : Bool := match xs with
  | x :: _ => match ρ x with
    | some (.sa (.one (.ptr o _ _))) => match st.rows o with
      | some (_, ct) => patData ct.pat
      | none => false
    | some (.sa a) => patData (st.patOf a)
    | _ => false
  | [] => false
def SO.icy : SO → Bool
  | .own false .ext _ _ _ => true
  | .mem false .ext _ _ _ => true
  | .part _ _ _ => true
  | _ => false
def icyAt (st : St) (o : Nat) : Bool := match st.get o with | some so => so.icy | none => false
def icyOf (st : St) : List Nat → List Nat
  | [] => []
  | o :: r => match icyAt st o with | true => o :: icyOf st r | false => icyOf st r
def hotOf (st : St) : List Nat → List Nat
  | [] => []
  | o :: r => match icyAt st o with | true => hotOf st r | false => o :: hotOf st r
def mapData (ρ : Operand → Option SV) (st : St) (m : Operand) : Bool := match ρ m with
  | some (.sa (.one (.ref o))) => match st.get o with
    | some (.mt _ _ _ cs _ _) => patData (cs.map Col.pat)
    | _ => false
  | _ => false
def touch (cx : Cx) (ρ : Operand → Option SV) (st : St) (o : Oper) : List Nat × List Nat :=
  match o.op with
  | .nilCheck x => match ρ x with
    | some (.sa (.one (.ptr _ _ _))) => ([], [])
    | _ => (prt st (opRefs ρ [x]), [])
  | .load _ x | .indexAddr _ x _ | .slice _ x _ _ _ | .lookup _ x _ _ => (prt st (opRefs ρ [x]), [])
  | .convert T T' x => match decide (T = T') with | true => ([], prt st (opRefs ρ [x])) | false => (prt st (opRefs ρ [x]), [])
  | .binOp _ _ x y _ => (opRefs ρ [x, y], [])
  | .store _ x y => match patAt ρ st [x] with
    | true => (icyOf st (prt st (opRefs ρ [y])), opRefs ρ [x] ++ hotOf st (prt st (opRefs ρ [y])))
    | false => ([], opRefs ρ [x])
  | .mapUpdate _ m _ v => match mapData ρ st m with
    | true => (icyOf st (prt st (opRefs ρ [v])), opRefs ρ [m] ++ hotOf st (prt st (opRefs ρ [v])))
    | false => ([], opRefs ρ [m])
  | .mapEntry _ m _ | .entryStore _ m _ _ => ([], opRefs ρ [m])
  | .call c => match c.callee with
    | .builtin .append | .builtin .copy => match cx.ice || patAt ρ st c.args.toList with
      | true =>
        let r := reach st 1000 (opRefs ρ (c.args.toList.drop 1)) []
        (icyOf st r, prt st (opRefs ρ (c.args.toList.take 1)) ++ hotOf st r)
      | false => (prt st (opRefs ρ (c.args.toList.drop 1)), prt st (opRefs ρ (c.args.toList.take 1)))
    | .builtin .delete | .builtin .clear => ([], prt st (opRefs ρ (c.args.toList.take 1)))
    | .builtin _ => (prt st (opRefs ρ c.args.toList), [])
    | .value f => match ρ f with
      | some (.sa (.one (.raw (.func (.func g) _ _)))) =>
        let r := reach st 1000 (opRefs ρ c.args.toList) []
        match cx.wr g with | 0 => (r, []) | 1 => (r, prt st (opRefs ρ c.args.toList)) | _ => ([], r)
      | some (.sa (.one (.ref q))) => match st.get q with
        | some (.clo (.func g) x y) =>
          let r := reach st 1000 (q :: opRefs ρ c.args.toList) []
          match cx.wr g with | 0 => (r, []) | 1 => (r, prt st (refsA x ++ (opRefs ρ c.args.toList ++ refsA y))) | _ => ([], r)
        | some (.lp ..) => ([], reach st 1000 (q :: opRefs ρ c.args.toList) [])
        | _ => ([], [])
      | _ => ([], [])
    | _ => ([], [])
  | _ => ([], [])
def SO.asRo : SO → SO
  | .mem _ k T m ct => .mem false k T m ct
  | .mp _ es cl => .mp false es cl
  | .mt _ kc va cs bs cl => .mt false kc va cs bs cl
  | .abs _ t D => .abs false t D
  | .box _ ob => .box false ob
  | .mv _ kk es rs cl h => .mv false kk es rs cl h
  | .lp _ f fr ps a b s j => .lp false f fr ps a b s j
  | .own _ k T m ct => .own false k T m ct
  | so => so
def restrict (rd wr : List Nat) : Nat → St → St
  | _, [] => []
  | i, x :: r => (match hasN i wr with
      | true => x
      | false => match hasN i rd with
        | true => x.map SO.asRo
        | false => none) :: restrict rd wr (i + 1) r
def mergeS (wr : List Nat) : Nat → St → St → St
  | _, [], s => s
  | i, x :: r, s => (match hasN i wr with
      | true => getL none s 0
      | false => x) :: mergeS wr (i + 1) r (dropL 1 s)
def belowL (n : Nat) : List Nat → Bool
  | [] => true
  | o :: r => match Nat.blt o n with | true => belowL n r | false => false
def belowS (n : Nat) : St → Bool
  | [] => true
  | none :: r => belowS n r
  | some so :: r => match belowL n so.refs with | true => belowS n r | false => false
structure Rec where
  rd : List Nat
  wr : List Nat
  ld : Option (TypeId × SA × SV) := none
  fn : Bool := false
def sameC : SC → SC → Bool
  | .raw (.int k x), .raw (.int k' y) => match decide (k = k') with | true => eqK x y | false => false
  | .raw (.bool x), .raw (.bool y) => x == y
  | .raw (.pointer none), .raw (.pointer none) => true
  | .raw (.slice none n c), .raw (.slice none n' c') => Nat.beq n n' && Nat.beq c c'
  | .ptr o i j, .ptr o' i' j' => Nat.beq o o' && Nat.beq i i' && Nat.beq j j'
  | .ref o, .ref o' => Nat.beq o o'
  | _, _ => false
def sameCs : List SC → List SC → Bool
  | [], [] => true
  | a :: l, b :: r => match sameC a b with | true => sameCs l r | false => false
  | _, _ => false
def sameV : SV → SV → Bool
  | .sa (.one a), .sa (.one b) => sameC a b
  | .sa (.agg a), .sa (.agg b) => sameCs a b
  | _, _ => false
def isFn (o : Oper) : Bool := match o.op with
  | .call c => match c.callee with
    | .value _ => true
    | _ => false
  | _ => false
def ldOf (ρ : Operand → Option SV) (o : Oper) (v : SV) (old new : Nat) : Option (TypeId × SA × SV) := match o.op with
  | .load T x => match rhoSA ρ x, Nat.beq old new with
    | some a, true => some (T, a, v)
    | _, _ => none
  | _ => none
def meets : List Nat → List Nat → Bool
  | [], _ => false
  | o :: r, l => match hasN o l with | true => true | false => meets r l
def Rec.clash (a b : Rec) : Bool := meets a.wr b.rd || meets a.wr b.wr || meets b.wr a.rd
def Rec.clashT (a b : Rec) : Bool := match b.fn with
  | true => match a.ld with
    | some _ => false
    | none => a.clash b
  | false => a.clash b
def uniN : List Nat → List Nat → List Nat
  | [], m => m
  | x :: r, m => match hasN x m with
    | true => uniN r m
    | false => uniN r (x :: m)
def ancestors (ops : List Oper) : List (List Nat) → List (List Nat)
  | acc => match ops with
    | [] => acc
    | o :: r => ancestors r (acc ++ [uniN (o.after.toList.flatMap fun e => if Region.binds .any e then e.on :: getL [] acc e.on else []) []])
def looks (ops : List Oper) (o : Oper) : List Nat :=
  (o.op.operands.toList.filterMap fun | .tmp t => some t | _ => none) ++
  (match o.guard with
    | some (j, _) => (match ops[j]? with | some oj => oj.dst.toList | none => [])
    | none => [])
def tmpClash (ops : List Oper) (x y : Oper) : Bool :=
  meets x.dst.toList (looks ops y) || meets x.dst.toList y.dst.toList || meets y.dst.toList (looks ops x)
def tmpPairs1 (anc : List (List Nat)) (ops : List Oper) (x : Oper) (i : Nat) : List Oper → Nat → Bool
  | y :: ys, j => match tmpClash ops x y && !hasN i (getL [] anc j) with
    | true => false
    | false => tmpPairs1 anc ops x i ys (j + 1)
  | [], _ => true
def tmpPairs (anc : List (List Nat)) (ops : List Oper) : List Oper → Nat → Bool
  | x :: xs, i => match tmpPairs1 anc ops x i xs (i + 1) with
    | true => tmpPairs anc ops xs (i + 1)
    | false => false
  | [], _ => true
def dynPairs1 (ops : List Oper) (rx : Rec) (i : Nat) : List Rec → Nat → Bool
  | ry :: rs, j => match rx.clashT ry with
    | true => match hasN i (getL [] (ancestors ops []) j) with
      | true => dynPairs1 ops rx i rs (j + 1)
      | false => false
    | false => dynPairs1 ops rx i rs (j + 1)
  | [], _ => true
def dynPairs (ops : List Oper) : List Rec → Nat → Bool
  | rx :: rs, i => match dynPairs1 ops rx i rs (i + 1) with
    | true => dynPairs ops rs (i + 1)
    | false => false
  | [], _ => true
def edgesBack : List Oper → Nat → Bool
  | [], _ => true
  | o :: r, i => (o.after.toList.all fun e => !Region.binds .any e || Nat.blt e.on i) && edgesBack r (i + 1)
def staticOk (ops : List Oper) : Bool := edgesBack ops 0 && tmpPairs (ancestors ops []) ops ops 0
def logOk (ops : List Oper) (log : List Rec) : Bool := match dynPairs ops log 0 with
  | true => staticOk ops
  | false => false
def upFrom (i : Nat) : Nat → List Nat
  | 0 => []
  | n + 1 => i :: upFrom (i + 1) n
def still (P : Program) (anc wr : List Nat) (st : St) : List Rec → Nat → Prop → Prop
  | [], _, p => p
  | r :: rs, i, p => match r.ld with
    | some (T, a, v) => match meets wr r.rd with
      | true => match hasN i anc with
        | true => still P anc wr st rs (i + 1) p
        | false => evLoad P T st a fun v' s => match Nat.beq (lenL s) (lenL st) with
          | true => need (sameV v' v) (still P anc wr st rs (i + 1) p)
          | false => False
      | false => still P anc wr st rs (i + 1) p
    | none => still P anc wr st rs (i + 1) p
def stillIf (b : Bool) (P : Program) (anc wr : List Nat) (st : St) (log : List Rec) (p : Prop) : Prop := match b with
  | true => still P anc wr st log 0 p
  | false => p
def forceL {α : Type} : List α → (List α → Prop) → Prop
  | [], k => k []
  | x :: r, k => forceL r fun s => k (x :: s)
def forceS : St → (St → Prop) → Prop
  | [], k => k []
  | x :: r, k => match x with
    | none => forceS r fun s => k (none :: s)
    | some so => forceS r fun s => k (some so :: s)
def evDraw (cx : Cx) (call : CallT) (all : List Oper) : List Oper → Fr → St → List Rec → (Fr → St → Prop) → Prop
  | [], fr, st, log, k => match logOk all log with | true => k fr st | false => False
  | o :: r, fr, st, log, k => evGuard all o fr
      (fun fr =>
        let t := touch cx (evOperand fr) st o
        forceL t.1 fun rd => forceL t.2 fun wr => forceS (restrict rd wr 0 st) fun loc =>
        match belowL (lenL st) (opRefs (evOperand fr) o.op.operands.toList) && belowS (lenL st) loc with
        | true => evOp cx call (evOperand fr) loc o fun v loc' => forceV cx.force v fun v =>
            forceS (mergeS wr 0 st loc') fun st' => forceL (fr.put o.dst v) fun fr' =>
            stillIf (isFn o) cx.P (getL [] (ancestors all []) (lenL log)) wr st' log
              (evDraw cx call all r fr' st' (log ++ [⟨rd, wr ++ upFrom (lenL st) (lenL loc' - lenL st), ldOf (evOperand fr) o v (lenL st) (lenL loc'), isFn o⟩]) k)
        | false => False)
      (fun fr => forceL (fr.put o.dst undefV) fun fr' => evDraw cx call all r fr' st (log ++ [⟨[], [], none, false⟩]) k)
def Code.key : Code → Option Nat
  | .region id _ _ => some id
  | .seq a b => match Code.key a with | some n => some n | none => Code.key b
  | .cond _ a b => match Code.key a with | some n => some n | none => Code.key b
  | .block _ c => Code.key c
  | .loop c => Code.key c
  | _ => none
def evResults (P : Program) (fr : Fr) : List ResultVar → St → (List SA → St → Prop) → Prop
  | [], st, k => k [] st
  | .tmp t :: r, st, k => match fr.get t with
    | some (.sa a) => evResults P fr r st fun l st' => k (a :: l) st'
    | _ => False
  | .cell t T :: r, st, k => match fr.get t with
    | some (.sa a) => evLoad P T st a fun v st1 => match v with
      | .sa b => evResults P fr r st1 fun l st' => k (b :: l) st'
      | _ => False
    | _ => False
def resultV : List SA → SV
  | [a] => .sa a
  | l => .tup l
def ren (n0 : Nat) (live : List Nat) (o : Nat) : Option Nat :=
  match Nat.blt o n0 with
  | true => some o
  | false => (idx o live 0).map (n0 + ·)
  where idx (o : Nat) : List Nat → Nat → Option Nat
  | [], _ => none
  | x :: r, i => match Nat.beq x o with | true => some i | false => idx o r (i + 1)
def SC.ren (f : Nat → Option Nat) : SC → Option SC
  | .raw v => some (.raw v)
  | .ptr o i j => (f o).map fun o' => .ptr o' i j
  | .sl o i n c => (f o).map fun o' => .sl o' i n c
  | .ref o => (f o).map fun o' => .ref o'
  | .dat k xs => some (.dat k xs)
def mapO {α β : Type} (g : α → Option β) : List α → Option (List β)
  | [] => some []
  | x :: r => match g x, mapO g r with
    | some y, some l => some (y :: l)
    | _, _ => none
def SA.ren (f : Nat → Option Nat) : SA → Option SA
  | .one c => (c.ren f).map .one
  | .agg l => (mapO (SC.ren f) l).map .agg
def SV.ren (f : Nat → Option Nat) : SV → Option SV
  | .sa a => (a.ren f).map .sa
  | .tup l => (mapO (SA.ren f) l).map .tup
def OV.ren (f : Nat → Option Nat) : Option SV → Option (Option SV)
  | none => some none
  | some v => (v.ren f).map some
def VE.ren (f : Nat → Option Nat) (e : VE) : Option VE := match e.val with
  | none => some e
  | some v => (v.ren f).map fun v' => { e with val := some v' }
def SO.ren (f : Nat → Option Nat) : SO → Option SO
  | .mem w k T m (.lst vs) => (mapO (mapO (SC.ren f)) vs).map fun vs' => .mem w k T m (.lst vs')
  | .mem w k T m (.ext n cs vs) => (mapO (mapO (SC.ren f)) vs).map fun vs' => .mem w k T m (.ext n cs vs')
  | .mem w k T m (.at1 n vs i e) => (mapO (SC.ren f) e).map fun e' => .mem w k T m (.at1 n vs i e')
  | .mem w k T m ct => some (.mem w k T m ct)
  | .own w k T m (.lst vs) => (mapO (mapO (SC.ren f)) vs).map fun vs' => .own w k T m (.lst vs')
  | .own w k T m (.ext n cs vs) => (mapO (mapO (SC.ren f)) vs).map fun vs' => .own w k T m (.ext n cs vs')
  | .own w k T m (.at1 n vs i e) => (mapO (SC.ren f) e).map fun e' => .own w k T m (.at1 n vs i e')
  | .own w k T m ct => some (.own w k T m ct)
  | .part o i n => (f o).map fun o' => .part o' i n
  | .nul => some .nul
  | .clo fn a b => match mapO (SA.ren f) a, mapO (SA.ren f) b with
    | some a', some b' => some (.clo fn a' b')
    | _, _ => none
  | .mp w es cl => (mapO (fun e => (e.val.ren f).map fun v => { e with val := v }) es).map fun es' => .mp w es' cl
  | .mt w kc va cs bs cl => some (.mt w kc va cs bs cl)
  | .abs w t D => some (.abs w t D)
  | .box w ob => some (.box w ob)
  | .mv w kk es rs cl h => (mapO (VE.ren f) es).map fun es' => .mv w kk es' rs cl h
  | .lp w g fr ps a b s j => (mapO (OV.ren f) fr).map fun fr' => .lp w g fr' ps a b s j
def OO.ren (f : Nat → Option Nat) : Option SO → Option (Option SO)
  | none => some none
  | some so => match so.refs with
    | [] => some (some so)
    | _ => (so.ren f).map some
def oldRefs : St → Nat → List Nat
  | _, 0 => []
  | [], _ => []
  | none :: r, n + 1 => oldRefs r n
  | some so :: r, n + 1 => so.refs ++ oldRefs r n
def dropOld (n0 : Nat) : List Nat → List Nat
  | [] => []
  | o :: r => match Nat.blt o n0 with | true => dropOld n0 r | false => o :: dropOld n0 r
def reachNew (n0 : Nat) (st : St) : Nat → List Nat → List Nat → List Nat
  | 0, _, acc => acc
  | _, [], acc => acc
  | n + 1, o :: r, acc => match hasN o acc with
    | true => reachNew n0 st n r acc
    | false => match st.get o with
      | some so => reachNew n0 st n (dropOld n0 so.refs ++ r) (acc ++ [o])
      | none => reachNew n0 st n r (acc ++ [o])
def collect (n0 : Nat) (v : SV) (st : St) (k : SV → St → Prop) : Prop :=
  match Nat.beq (lenL st) n0 with
  | true => k v st
  | false =>
    let live := reachNew n0 st 10000 (dropOld n0 (v.refs ++ oldRefs st n0)) []
    match v.ren (ren n0 live), mapO (OO.ren (ren n0 live)) (takeL n0 st ++ live.map st.get) with
    | some v', some st' => k v' st'
    | _, _ => False
def frame0 (n : Nat) (args : List SA) : Fr := args.map (fun a => some (.sa a)) ++ repL (n - lenL args) (some undefV)
def reachAll (st : St) : Nat → List Nat → List Nat → List Nat
  | 0, _, acc => acc
  | _, [], acc => acc
  | n + 1, o :: r, acc => match hasN o acc with
    | true => reachAll st n r acc
    | false => match Nat.blt o (lenL st) with
      | false => reachAll st n r acc
      | true => match st.get o with
        | some so => reachAll st n (so.refs ++ r) (acc ++ [o])
        | none => reachAll st n r (acc ++ [o])
def back (objs : List Nat) (m L o : Nat) : Option Nat :=
  match Nat.blt o m with
  | true => some (getL 0 objs o)
  | false => some (L + (o - m))
def putBack (objs : List Nat) (loc : St) : Nat → St → St
  | _, [] => []
  | i, x :: r => (match ren 0 objs i with
    | some j => getL none loc j
    | none => x) :: putBack objs loc (i + 1) r
def onPart (s : List SA → St → (SV → St → Prop) → Prop) (args : List SA) (st : St) (k : SV → St → Prop) : Prop :=
  let objs := reachAll st 10000 (refsA args) []
  match mapO (SA.ren (ren 0 objs)) args, mapO (OO.ren (ren 0 objs)) (objs.map st.get) with
  | some args', some loc => s args' loc fun v loc' =>
    match v.ren (back objs (lenL objs) (lenL st)), mapO (OO.ren (back objs (lenL objs) (lenL st))) loc' with
    | some v', some loc2 => k v' (putBack objs loc2 0 st ++ dropL (lenL objs) loc2)
    | _, _ => False
  | _, _ => False
abbrev RunT := Nat → FuncId → Code → Fr → St → (Exit → Fr → St → Prop) → Prop
def kSeq (run : Fr → St → (Exit → Fr → St → Prop) → Prop) (k : Exit → Fr → St → Prop) : Exit → Fr → St → Prop := fun ex fr st => match ex with
  | .normal => run fr st k
  | ex => k ex fr st
def kBlock (id : Nat) (k : Exit → Fr → St → Prop) : Exit → Fr → St → Prop := fun ex fr st => match ex with
  | .exit id' => match Nat.beq id' id with
    | true => k .normal fr st
    | false => k (.exit id') fr st
  | ex => k ex fr st
def kScope (k : Exit → Fr → St → Prop) : Exit → Fr → St → Prop := fun ex fr st => match ex with
  | .goto _ => False
  | ex => k ex fr st
def kRet (P : Program) (rs : List ResultVar) (n0 : Nat) (k : SV → St → Prop) : Exit → Fr → St → Prop := fun ex fr st => match ex with
  | .normal | .ret => evResults P fr rs st fun l st' => collect n0 (resultV l) st' k
  | _ => False
def setPs : Fr → List Nat → List SA → Option Fr
  | fr, [], [] => some fr
  | fr, p :: ps, a :: as => setPs (setL fr p (some (.sa a))) ps as
  | _, _, _ => none
def noneB : Option Code → Bool
  | none => true
  | some _ => false
def stAfter : Bool → Nat
  | true => 0
  | false => 2
def endRound (q n0 : Nat) (j : Option Code) (st : St) (k : SV → St → Prop) : Prop :=
  match st.get q with
  | some (.lp true f fr ps a b 1 _) => collect n0 (.sa (.one (.raw (.bool (noneB j))))) (st.put q (some (.lp true f fr ps a b (stAfter (noneB j)) j))) k
  | _ => False
def kRound (q n0 : Nat) (k : SV → St → Prop) : Exit → Fr → St → Prop := fun ex _ st => match ex with
  | .normal => endRound q n0 none st k
  | .ret => endRound q n0 (some .ret) st k
  | .exit id => endRound q n0 (some (.exit id)) st k
  | _ => False
def kAssign (run : RunT) (q n0 f : Nat) (b : Code) (k : SV → St → Prop) : Exit → Fr → St → Prop := fun ex fr st => match ex with
  | .normal => match st.get q with
    | some (.lp true f2 fr2 ps a2 b2 0 j) => run n0 (f + big) b fr (st.put q (some (.lp true f2 fr2 ps a2 b2 1 j))) (kRound q n0 k)
    | _ => False
  | _ => False
def evRound (run : RunT) (q : Nat) (args : List SA) (st : St) (k : SV → St → Prop) : Prop :=
  match st.get q with
  | some (.lp true f fr ps a b 0 _) => opt (setPs fr ps args) fun fr1 => run (lenL st) (f + big) a fr1 st (kAssign run q (lenL st) f b k)
  | _ => False
def evCall (cx : Cx) (run : RunT) (g : FuncId) (args : List SA) (st : St)
    (k : SV → St → Prop) : Prop :=
  match Nat.blt g big with
  | false => evRound run (g - big) args st k
  | true => match cx.P.funcs[g]? with
    | some fn => match fn.body with
      | some c => match cx.sum g with
        | some s => onPart s args st k
        | none => run (lenL st) g c (frame0 fn.ntmps args) st (kRet cx.P fn.results.toList (lenL st) k)
      | none => False
    | none => False
def evIter (call : CallT) (f : SA) (args : List SA) (st : St) (k : SV → St → Prop) : Prop :=
  match f with
  | .one (.raw (.func (.func g) first cap)) => match Nat.blt g big with
    | true => call g (first.toList.map SA.ofValue ++ args ++ cap.toList.map SA.ofValue) st k
    | false => False
  | .one (.ref o) => match st.get o with
    | some (.clo (.func g) first cap) => match Nat.blt g big with
      | true => call g (first ++ args ++ cap) st k
      | false => False
    | _ => False
  | _ => False
def kRange (run : RunT) (n0 : Nat) (f : FuncId) (q : Nat) (fr : Fr) (k : Exit → Fr → St → Prop) : SV → St → Prop := fun _ st =>
  match st.get q with
  | some (.lp true f' fr' ps a b s j) => match Nat.beq s 1 with
    | true => False
    | false => match j with
      | none => k .normal fr (st.put q (some (.lp true f' fr' ps a b 3 none)))
      | some c => run n0 f c fr (st.put q (some (.lp true f' fr' ps a b 3 (some c)))) k
  | _ => False
def again (p : Prop) : Prop := p
structure Again (p : Prop) : Prop where
  h : p
def keepL (live : List Nat) : Nat → Fr → Fr
  | _, [] => []
  | i, x :: r => (match hasN i live with | true => x | false => none) :: keepL live (i + 1) r
def OO.canon : Option SO → Option SO
  | some (.mem w .row T m ct) => some (.mem w .row T m ct.canon)
  | x => x
def mapL {α β : Type} (f : α → β) : List α → List β
  | [] => []
  | x :: r => f x :: mapL f r
def forget (n0 : Nat) (live : List Nat) (fr : Fr) (st : St) (K : Fr → St → Prop) : Prop :=
  let fr1 := keepL live 0 fr
  let objs := reachNew n0 st 10000 (dropOld n0 (frRefs fr1 ++ oldRefs st n0)) []
  match mapO (OV.ren (ren n0 objs)) fr1, mapO (OO.ren (ren n0 objs)) (takeL n0 st ++ objs.map st.get) with
  | some fr', some st' => K fr' (mapL OO.canon st')
  | _, _ => False
def kCols (P : Program) (t : TypeId) : Option (List Col) := match P.underlying t with
  | some (.int k) => some [.ints k []]
  | some .bool => some [.bools []]
  | some (.slice e) => match P.underlying e with
    | some (.int k) => some [.data k []]
    | _ => none
  | _ => none
def kFields (P : Program) (f : TypeId → Option (List Col)) : List Field → Option (List Col)
  | [] => some []
  | g :: r => match f g.type, kFields P f r with
    | some a, some b => some (a ++ b)
    | _, _ => none
def kDeep (P : Program) : Nat → TypeId → Option (List Col)
  | 0, t => kCols P t
  | n + 1, t => match P.underlying t with
    | some (.struct gs) => kFields P (kDeep P n) gs.toList
    | _ => kCols P t
def emptyCt (P : Program) (e : TypeId) : Option Ct := match P.underlying e with
  | some (.int k) => some (.ints k [])
  | some (.struct fs) => match kFields P (kDeep P 3) fs.toList with
    | some cs => some (.tab 0 cs)
    | none => none
  | _ => match kCols P e with
    | some cs => some (.tab 0 cs)
    | none => none
def capIn (c : Option Nat) (i n len : Nat) : Bool := match c with
  | none => true
  | some c => decide (n ≤ c ∧ i + c ≤ len)
def Col.fit (n : Nat) : Col → Col
  | .ints k xs => .ints k (fitL 0 n xs)
  | .bools xs => .bools (fitL false n xs)
  | .data k xss => .data k (fitL [] n xss)
def fitCols (n : Nat) : List Col → List Col
  | [] => []
  | c :: r => c.fit n :: fitCols n r
def Ct.fit : Ct → Ct
  | .tab n cs => .tab n (fitCols n cs)
  | ct => ct
def Ct.orE (E : Option Ct) : Ct → Ct
  | .lst [] => match E with | some ct => ct | none => .lst []
  | ct => ct.fit
def elemE (P : Program) (T : TypeId) : Option Ct := match P.underlying T with
  | some (.slice e) => emptyCt P e
  | _ => none
def memAt (st : St) (o : Nat) : Bool := match st.get o with
  | some (.mem true _ _ _ _) => true
  | _ => false
def ownPart (E : Option Ct) (st : St) (o i n : Nat) (c : Option Nat) (k : SC → St → Prop) : Prop :=
  match st.get o with
  | some (.own false .ext T m ct) => need (decide (i + n ≤ ct.len)) (need (capIn c i n ct.len) (k (.ref (lenL st)) (st ++ [some (.own false .ext T m (ct.sub i n))])))
  | some so => match so.can, so.rows with
    | true, some (m, ct) => need (decide (i + n ≤ ct.len)) (need (capIn c i n ct.len) (k (.ref (lenL st)) (st.put o none ++ [some (.own true .row so.ty m ((ct.sub i n).canon.orE E))])))
    | _, _ => False
  | _ => False
def ownOf (P : Program) (T : TypeId) (st : St) (c : SC) (k : SC → St → Prop) : Prop :=
  match c with
  | .raw (.slice none 0 0) => match P.underlying T with
    | some (.slice e) => match emptyCt P e, tSize P e with
      | some ct, some s => match decide (0 < s) with
        | true => k (.ref (lenL st)) (st ++ [some (.own true .row e s ct)])
        | false => False
      | _, _ => False
    | _ => False
  | .ref q => match st.get q with
    | some (.own false .ext T m ct) => k (.ref (lenL st)) (st ++ [some (.own false .ext T m ct)])
    | some (.own _ _ _ _ _) => k (.ref q) st
    | some (.part o i n) => match st.roomy o with
      | some _ => ownPart (elemE P T) st o i n none k
      | none => False
    | _ => False
  | .sl o i n c => need (memAt st o || decide (0 < n)) (ownPart (elemE P T) st o i n c k)
  | _ => False
def iceC (st : St) (c : SC) (k : SC → St → Prop) : Prop := match c with
  | .ref q => match st.get q with
    | some (.own true .row T m ct) => k (.ref (lenL st)) (st.put q none ++ [some (.own false .ext 0 m ct)])
    | some (.own false .ext _ _ _) => k (.ref q) st
    | _ => False
  | _ => False
def ownOfT (P : Program) (T : TypeId) (st : St) (c : SC) (k : SC → St → Prop) : Prop := match Nat.blt T big with
  | true => ownOf P T st c k
  | false => ownOf P (T - big) st c fun c' st' => iceC st' c' k
def tidyCell (P : Program) (T : TypeId) (st : St) (o i j : Nat) (k : St → Prop) : Prop :=
  match st.get o with
  | some (.mem w .whole T' m (.lst vs)) => match getL [] vs i with
    | row => match Nat.blt j (lenL row), Nat.blt i (lenL vs) with
      | true, true => ownOfT P T st (getL (.raw undef) row j) fun c st1 => match st1.get o with
        | some (.mem _ .whole _ _ (.lst _)) => k (st1.put o (some (.mem w .whole T' m (.lst (setL vs i (setL row j c))))))
        | _ => False
      | _, _ => False
  | _ => False
def tidyAt (P : Program) (T : TypeId) (st : St) : SC → List Nat → (St → Prop) → Prop
  | .ptr o i 0, [j], k => tidyCell P T st o i j k
  | .ptr o i 0, j :: r, k => match st.get o with
    | some (.mem _ _ _ _ (.lst vs)) => tidyAt P T st (getL (.raw undef) (getL [] vs i) j) r k
    | _ => False
  | .ref q, j :: r, k => match st.get q with
    | some (.own _ _ _ _ (.lst vs)) => tidyAt P T st (getL (.raw undef) (getL [] vs j) 0) r k
    | _ => False
  | _, _, _ => False
def tidy1 (P : Program) (x : Tidy) (fr : Fr) (st : St) (k : Fr → St → Prop) : Prop :=
  match fr.get x.slot, x.path with
  | some (.sa (.one c)), [] => ownOfT P x.T st c fun c' st' => k (fr.put (some x.slot) (.sa (.one c'))) st'
  | some (.sa (.one c)), path => tidyAt P x.T st c path fun st' => k fr st'
  | _, _ => False
def tidyAll (P : Program) : List Tidy → Fr → St → (Fr → St → Prop) → Prop
  | [], fr, st, k => k fr st
  | x :: r, fr, st, k => tidy1 P x fr st fun fr' st' => tidyAll P r fr' st' k
def atKey (cx : Cx) (f i : Nat) (_c : Code) (n0 : Nat) (fr : Fr) (st : St) (K : Fr → St → Prop) : Prop :=
  match cx.loop f i with
  | some (live, ts) => tidyAll cx.P ts (keepL live 0 fr) st fun fr' st' => forget n0 live fr' st' fun fr st => Again (K fr st)
  | none => K fr st
def atHead (cx : Cx) (f : FuncId) (c : Code) (n0 : Nat) (fr : Fr) (st : St) (K : Fr → St → Prop) : Prop :=
  match Code.key c with
  | some i => atKey cx f i c n0 fr st K
  | none => K fr st
def atCut (cx : Cx) (f id : Nat) (c : Code) (n0 : Nat) (fr : Fr) (st : St) (K : Fr → St → Prop) : Prop := atKey cx f (big + id) c n0 fr st K
def codeDown : Code → List Nat → Code
  | c, [] => c
  | .seq a b, n :: r => match n with | 0 => codeDown a r | _ => codeDown b r
  | .cond _ a b, n :: r => match n with | 0 => codeDown a r | _ => codeDown b r
  | .block _ c, _ :: r => codeDown c r
  | .loop c, _ :: r => codeDown c r
  | .scope c, _ :: r => codeDown c r
  | .rangeFunc _ _ a b, n :: r => match n with | 0 => codeDown a r | _ => codeDown b r
  | c, _ :: _ => c
def codeAt (P : Program) (f : FuncId) (way : List Nat) : Code :=
  match P.funcs[f]? with
  | some fn => match fn.body with
    | some c => codeDown c way
    | none => .skip
  | none => .skip
def here (P : Program) (f : FuncId) (way : List Nat) (c : Code) (p : Prop) : Prop := c = codeAt P f way ∧ p
def slotsOf (fr : Fr) : List Nat → Option (List SA)
  | [] => some []
  | t :: r => match fr.get t, slotsOf fr r with
    | some (.sa a), some l => some (a :: l)
    | _, _ => none
def kHand (h : Hand) (fr : Fr) (k : Fr → St → Prop) : SV → St → Prop := fun v st' => match v with
  | .tup l => match setPs (keepL h.live 0 fr) h.outs l with
    | some fr' => k fr' st'
    | none => False
  | _ => False
def unbig (f : FuncId) : FuncId := match Nat.blt f big with
  | true => f
  | false => f - big
def evHand (P : Program) (f : FuncId) (h : Hand) (c : Code) (fr : Fr) (st : St) (k : Fr → St → Prop) : Prop :=
  match Nat.beq (lenL fr) h.n with
  | true => (match slotsOf fr h.ins with
    | some args => here P (unbig f) h.way c (onPart h.s args st (kHand h fr k))
    | none => False)
  | false => False
def regRun (cx : Cx) (run : RunT) (_n0 : Nat) (f : FuncId) (c : Code) (k : Exit → Fr → St → Prop) (fr : Fr) (st : St) : Prop := match c with
  | .region id ops draw => match cx.hand f id with
    | some h => evHand cx.P f h (.region id ops draw) fr st fun fr st => k .normal fr st
    | none => match draw with
      | true => evDraw cx (evCall cx run) ops.toList ops.toList fr st [] fun fr st => k .normal fr st
      | false => evOps cx (evCall cx run) ops.toList ops.toList fr st fun fr st => k .normal fr st
  | _ => False
def evStep (cx : Cx) (run : RunT) : RunT := fun n0 f c fr st k =>
    match c with
    | .skip | .label _ => k .normal fr st
    | .exit id => k (.exit id) fr st
    | .ret => k .ret fr st
    | .region id ops draw => atCut cx f id (.region id ops draw) n0 fr st (regRun cx run n0 f (.region id ops draw) k)
    | .seq a b => run n0 f a fr st (kSeq (run n0 f b) k)
    | .cond o a b => match o with
      | .tmp t => match fr.get t with
        | some (.sa (.one (.raw (.bool x)))) => branch x (run n0 f a (fr.put (some t) (.sa (.one (.raw (.bool true))))) st k)
            (run n0 f b (fr.put (some t) (.sa (.one (.raw (.bool false))))) st k)
        | _ => False
      | .const (.bool x) => branch x (run n0 f a fr st k) (run n0 f b fr st k)
      | _ => False
    | .block id c => run n0 f c fr st (kBlock id k)
    | .scope c => run n0 f c fr st (kScope k)
    | .loop c => atHead cx f c n0 fr st fun fr st => run n0 f c fr st (kSeq (run n0 f (.loop c)) k)
    | .rangeFunc g ps a b => match Nat.blt f big with
      | true => opt (evSA fr g) fun gv =>
          evIter (evCall cx run) gv [.one (.ref (lenL st))] (st ++ [some (.lp true f fr ps.toList a b 0 none)]) (kRange run n0 f (lenL st) fr k)
      | false => False
    | _ => False
def evNone : RunT := fun _ _ _ _ _ _ => False
noncomputable def ev (cx : Cx) (n : Nat) : RunT := Nat.rec evNone (fun _ r => evStep cx r) n
end Go.Ev

/- THE ENGINE, part 2b: what an object that is told by a word of its own is: here there is none. -/
namespace Go.Ev
open Go
structure absGood (t : Nat) (D : AD) (w : World) (d : Den) : Prop where
  h : False
structure absLies (t : Nat) (D : AD) (w : World) (d : Den) (b : Nat) : Prop where
  h : False
theorem absGood_congr {t : Nat} {D : AD} {w w' : World} {d : Den} (h : absGood t D w d) (_hb : ∀ b, absLies t D w d b → w'.heap[b]? = w.heap[b]?) (_hs : w.heap.size ≤ w'.heap.size) : absGood t D w' d := h.h.elim
theorem absLies_congr {t : Nat} {D : AD} {w w' : World} {d : Den} (_hg : absGood t D w d) (_hb : ∀ b, absLies t D w d b → w'.heap[b]? = w.heap[b]?) {b : Nat} (h : absLies t D w' d b) : absLies t D w d b := h.h.elim
theorem absLies_lt {t : Nat} {D : AD} {w : World} {d : Den} (h : absGood t D w d) {b : Nat} (_hb : absLies t D w d b) : b < w.heap.size := h.h.elim
end Go.Ev

/- THE ENGINE, part 3: what an abstract state says of a world. -/
namespace Go.Ev
open Go
@[simp] theorem lenL_eq {α : Type} (l : List α) : lenL l = l.length := by induction l <;> simp_all [lenL]
@[simp] theorem getL_eq {α : Type} (d : α) (l : List α) (i : Nat) : getL d l i = l[i]?.getD d := by
  induction l generalizing i with
  | nil => cases i <;> rfl
  | cons x r ih => cases i <;> simp [getL, ih]
@[simp] theorem setL_eq {α : Type} (l : List α) (i : Nat) (x : α) : setL l i x = l.set i x := by
  induction l generalizing i with
  | nil => cases i <;> rfl
  | cons y r ih => cases i <;> simp [setL, ih]
@[simp] theorem takeL_eq {α : Type} (n : Nat) (l : List α) : takeL n l = l.take n := by
  induction n generalizing l with
  | zero => simp [takeL]
  | succ n ih => cases l <;> simp [takeL, ih]
@[simp] theorem dropL_eq {α : Type} (n : Nat) (l : List α) : dropL n l = l.drop n := by
  induction n generalizing l with
  | zero => simp [dropL]
  | succ n ih => cases l <;> simp [dropL, ih]
@[simp] theorem repL_eq {α : Type} (n : Nat) (x : α) : repL n x = List.replicate n x := by
  induction n <;> simp_all [repL, List.replicate]
theorem forceN_eq (n : Nat) (k : Nat → Prop) : forceN n k = k n := by cases n <;> rfl
theorem forceI_eq (x : Int) (k : Int → Prop) : forceI x k = k x := by cases x <;> simp only [forceI, forceN_eq]
theorem forceV_eq (b : Bool) (v : SV) (k : SV → Prop) : forceV b v k = k v := by
  unfold forceV
  split
  · split
    · exact forceI_eq _ _
    · rfl
  · rfl
theorem forceL_eq {α : Type} (l : List α) (k : List α → Prop) : forceL l k = k l := by
  induction l generalizing k with
  | nil => rfl
  | cons x r ih => simp only [forceL, ih]
theorem forceS_eq (l : St) (k : St → Prop) : forceS l k = k l := by
  induction l generalizing k with
  | nil => rfl
  | cons x r ih => cases x <;> simp only [forceS, ih]
def SC.val? (α : Al) : SC → Option Value
  | .raw v => some v
  | .ptr o i j => match α o with
    | some d => some (.pointer (some ⟨d.blk, d.off + i * d.m + j, none⟩))
    | none => none
  | .sl o i n c => match α o with
    | some d => some (.slice (some ⟨d.blk, d.off + i * d.m, none⟩) n (c.getD (d.cap - i)))
    | none => none
  | .ref o => match α o with
    | some d => some d.val
    | none => none
  | .dat _ _ => none
def Reps (α : Al) : List SC → List Value → Prop
  | [], [] => True
  | c :: l, v :: vs => c.val? α = some v ∧ Reps α l vs
  | _, _ => False
def SA.rep (α : Al) : SA → Value → Prop
  | .one c, v => c.val? α = some v
  | .agg l, v => ∃ vs, Reps α l vs ∧ v = .agg vs.toArray
def RepsA (α : Al) : List SA → List Value → Prop
  | [], [] => True
  | c :: l, v :: vs => c.rep α v ∧ RepsA α l vs
  | _, _ => False
def SV.rep (α : Al) : SV → Value → Prop
  | .sa a, v => a.rep α v
  | .tup l, v => ∃ vs, RepsA α l vs ∧ v = .tuple vs.toArray
def Al.le (α β : Al) : Prop := ∀ o d, α o = some d → β o = some d
theorem Al.le.refl (α : Al) : α.le α := fun _ _ h => h
theorem SC.val?_mono {α β : Al} (h : α.le β) {c : SC} {v : Value} (e : c.val? α = some v) : c.val? β = some v := by
  cases c <;> simp only [SC.val?] at e ⊢
  · exact e
  case dat => simp at e
  all_goals
    split at e
    · rename_i d hd; rw [h _ _ hd]; exact e
    · simp at e
theorem Reps.mono {α β : Al} (h : α.le β) : ∀ {l : List SC} {vs : List Value}, Reps α l vs → Reps β l vs
  | [], [], _ => trivial
  | _ :: _, _ :: _, e => ⟨SC.val?_mono h e.1, Reps.mono h e.2⟩
  | [], _ :: _, e => e.elim
  | _ :: _, [], e => e.elim
theorem SA.rep_mono {α β : Al} (h : α.le β) {a : SA} {v : Value} (e : a.rep α v) : a.rep β v := by
  cases a with
  | one c => exact SC.val?_mono h e
  | agg l => obtain ⟨vs, r, e⟩ := e; exact ⟨vs, r.mono h, e⟩
theorem RepsA.mono {α β : Al} (h : α.le β) : ∀ {l : List SA} {vs : List Value}, RepsA α l vs → RepsA β l vs
  | [], [], _ => trivial
  | _ :: _, _ :: _, e => ⟨SA.rep_mono h e.1, RepsA.mono h e.2⟩
  | [], _ :: _, e => e.elim
  | _ :: _, [], e => e.elim
theorem SV.rep_mono {α β : Al} (h : α.le β) {a : SV} {v : Value} (e : a.rep α v) : a.rep β v := by
  cases a with
  | sa c => exact SA.rep_mono h e
  | tup l => obtain ⟨vs, r, e⟩ := e; exact ⟨vs, r.mono h, e⟩
theorem Reps.length {α : Al} : ∀ {l : List SC} {vs : List Value}, Reps α l vs → vs.length = l.length
  | [], [], _ => rfl
  | _ :: _, _ :: _, e => by simp [Reps.length e.2]
  | [], _ :: _, e => e.elim
  | _ :: _, [], e => e.elim
theorem Reps.get {α : Al} : ∀ {l : List SC} {vs : List Value}, Reps α l vs → ∀ {i : Nat} {c : SC}, l[i]? = some c → ∃ v, vs[i]? = some v ∧ c.val? α = some v
  | [], [], _, _, _, h => by simp at h
  | c :: l, v :: vs, e, 0, _, h => by simp at h; subst h; exact ⟨v, rfl, e.1⟩
  | c :: l, v :: vs, e, i + 1, _, h => by simp at h; simpa using Reps.get e.2 h
  | [], _ :: _, e, _, _, _ => e.elim
  | _ :: _, [], e, _, _, _ => e.elim
theorem Reps.mk {α : Al} : ∀ {l : List SC} {vs : List Value}, vs.length = l.length → (∀ (i : Nat) (c : SC), l[i]? = some c → ∃ v, vs[i]? = some v ∧ c.val? α = some v) → Reps α l vs
  | [], [], _, _ => trivial
  | c :: l, v :: vs, hl, h => by
    refine ⟨?_, Reps.mk (by simpa using hl) fun i c hc => ?_⟩
    · obtain ⟨v', h1, h2⟩ := h 0 c rfl
      simp at h1; subst h1; exact h2
    · simpa using h (i + 1) c (by simpa using hc)
  | [], _ :: _, h, _ => by simp at h
  | _ :: _, [], h, _ => by simp at h
theorem Reps.append {α : Al} {l l' : List SC} {vs vs' : List Value} (h : Reps α l vs) (h' : Reps α l' vs') : Reps α (l ++ l') (vs ++ vs') := by
  induction l generalizing vs with
  | nil => cases vs with | nil => simpa using h' | cons _ _ => exact h.elim
  | cons c l ih => cases vs with
    | nil => exact h.elim
    | cons v vs => exact ⟨h.1, ih h.2⟩
theorem Reps.take {α : Al} {l : List SC} {vs : List Value} (h : Reps α l vs) (n : Nat) : Reps α (l.take n) (vs.take n) := by
  induction l generalizing vs n with
  | nil => cases vs with | nil => simp [Reps] | cons _ _ => exact h.elim
  | cons c l ih => cases vs with
    | nil => exact h.elim
    | cons v vs => cases n with | zero => simp [Reps] | succ n => exact ⟨h.1, ih h.2 n⟩
theorem Reps.drop {α : Al} {l : List SC} {vs : List Value} (h : Reps α l vs) (n : Nat) : Reps α (l.drop n) (vs.drop n) := by
  induction l generalizing vs n with
  | nil => cases vs with | nil => simp [Reps] | cons _ _ => exact h.elim
  | cons c l ih => cases vs with
    | nil => exact h.elim
    | cons v vs => cases n with | zero => simpa using ⟨h.1, h.2⟩ | succ n => simpa using ih h.2 n
theorem Reps.raw {α : Al} (vs : List Value) : Reps α (vs.map .raw) vs := by
  induction vs with
  | nil => trivial
  | cons v vs ih => exact ⟨rfl, ih⟩
theorem RepsA.length {α : Al} : ∀ {l : List SA} {vs : List Value}, RepsA α l vs → vs.length = l.length
  | [], [], _ => rfl
  | _ :: _, _ :: _, e => by simp [RepsA.length e.2]
  | [], _ :: _, e => e.elim
  | _ :: _, [], e => e.elim
theorem RepsA.get {α : Al} : ∀ {l : List SA} {vs : List Value}, RepsA α l vs → ∀ {i : Nat} {c : SA}, l[i]? = some c → ∃ v, vs[i]? = some v ∧ c.rep α v
  | [], [], _, _, _, h => by simp at h
  | c :: l, v :: vs, e, 0, _, h => by simp at h; subst h; exact ⟨v, rfl, e.1⟩
  | c :: l, v :: vs, e, i + 1, _, h => by simp at h; simpa using RepsA.get e.2 h
  | [], _ :: _, e, _, _, _ => e.elim
  | _ :: _, [], e, _, _, _ => e.elim
theorem RepsA.append {α : Al} {l l' : List SA} {vs vs' : List Value} (h : RepsA α l vs) (h' : RepsA α l' vs') : RepsA α (l ++ l') (vs ++ vs') := by
  induction l generalizing vs with
  | nil => cases vs with | nil => simpa using h' | cons _ _ => exact h.elim
  | cons c l ih => cases vs with
    | nil => exact h.elim
    | cons v vs => exact ⟨h.1, ih h.2⟩
theorem SA.rep_cells {α : Al} {a : SA} {v : Value} (h : a.rep α v) (hc : ∀ c, a = .one c → isCell v = true) : Reps α a.cells v.cells.toList := by
  cases a with
  | one c =>
    have hv := hc c rfl
    cases v <;> first | (simp [Ev.isCell] at hv; done) | exact ⟨h, trivial⟩
  | agg l => obtain ⟨vs, r, rfl⟩ := h; simpa [Value.cells, SA.cells] using r
theorem SA.rep_ofValue {α : Al} (v : Value) : (SA.ofValue v).rep α v := by
  cases v <;> first | exact rfl | exact ⟨_, Reps.raw _, by simp⟩
theorem RepsA.ofValues {α : Al} (vs : List Value) : RepsA α (vs.map SA.ofValue) vs := by
  induction vs with
  | nil => trivial
  | cons v vs ih => exact ⟨SA.rep_ofValue v, ih⟩
theorem SV.rep_ofValue {α : Al} (v : Value) : (SV.ofValue v).rep α v := by
  cases v
  case tuple vs => exact ⟨_, RepsA.ofValues _, by simp⟩
  case agg vs => exact SA.rep_ofValue (.agg vs)
  all_goals exact rfl
theorem SC.isCell_val {α : Al} (href : ∀ o d, α o = some d → Ev.isCell d.val = true) {c : SC} {v : Value} (h : c.val? α = some v) (hc : c.isCell = true) : Ev.isCell v = true := by
  cases c with
  | raw u => simp [SC.val?] at h; subst h; exact hc
  | ptr o i j => simp only [SC.val?] at h; split at h <;> simp at h; subst h; rfl
  | sl o i n k => simp only [SC.val?] at h; split at h <;> simp at h; subst h; rfl
  | ref o =>
    simp only [SC.val?] at h
    split at h
    · rename_i d hd; simp at h; subst h; exact href o d hd
    · simp at h
  | dat k xs => simp [SC.val?] at h
def FrOk (α : Al) (fr : Fr) (tmps : Array Value) : Prop := fr.length = tmps.size ∧ ∀ t sv, fr.get t = some sv → ∃ v, tmps[t]? = some v ∧ SV.rep α sv v
theorem FrOk.mono {α β : Al} {fr : Fr} {tmps : Array Value} (h : α.le β) (hf : FrOk α fr tmps) : FrOk β fr tmps :=
  ⟨hf.1, fun t sv ht => let ⟨v, h1, h2⟩ := hf.2 t sv ht; ⟨v, h1, SV.rep_mono h h2⟩⟩
theorem Fr.get_eq (fr : Fr) (t : Nat) : fr.get t = fr[t]?.getD none := by simp [Fr.get]
def stOf : Nat → LoopState
  | 0 => .ready
  | 1 => .busy
  | 2 => .done
  | _ => .exhausted
def DatOk (w : World) (k : IntKind) (xs : List Int) (v : Value) : Prop :=
  (xs = [] ∧ ∃ a c, v = .slice a 0 c) ∨
  (xs ≠ [] ∧ ∃ b o c, v = .slice (some ⟨b, o, none⟩) xs.length c ∧ xs.length ≤ c ∧ b < w.heap.size ∧ ∀ i, i < xs.length → w.cell? ⟨b, o + i, none⟩ = some (.int k (xs[i]?.getD 0)))
def DatBlk (xs : List Int) (v : Value) (b : Nat) : Prop := xs ≠ [] ∧ ∃ o n c, v = .slice (some ⟨b, o, none⟩) n c
def CellOk (w : World) (α : Al) (c : SC) (v : Value) : Prop := match c with
  | .dat k xs => DatOk w k xs v
  | c => c.val? α = some v
theorem CellOk.of {w : World} {α : Al} {c : SC} {v : Value} (h : c.val? α = some v) : CellOk w α c v := by
  cases c with
  | dat k xs => simp [SC.val?] at h
  | _ => exact h
theorem CellOk.val {w : World} {α : Al} {c : SC} {v : Value} (h : CellOk w α c v) (hc : ∀ k xs, c ≠ .dat k xs) : c.val? α = some v := by
  cases c with
  | dat k xs => exact absurd rfl (hc k xs)
  | _ => exact h
theorem CellOk.mono {w : World} {α β : Al} (hl : α.le β) {c : SC} {v : Value} (h : CellOk w α c v) : CellOk w β c v := by
  cases c with
  | dat k xs => exact h
  | _ => exact SC.val?_mono hl h
def Ct.Cells (w : World) (α : Al) (ct : Ct) (m : Nat) (g : Nat → Nat → Option Value) : Prop :=
  ∀ i, i < ct.len → (ct.get i).length = m ∧ ∀ j c, (ct.get i)[j]? = some c → ∃ v, CellOk w α c v ∧ g i j = some v ∧ Ev.isCell v = true
def EntsRep (α : Al) : List SE → List MapEntry → Prop
  | [], [] => True
  | e :: l, x :: xs => (x.key = e.key ∧ x.born = e.born ∧ e.val.rep α x.val) ∧ EntsRep α l xs
  | _, _ => False
def VesRep (α : Al) (kk : List IntKind) : List VE → List MapEntry → Prop
  | [], ps => ps = []
  | e :: es, ps => match e.val with
    | none => VesRep α kk es ps
    | some v => ∃ p r, ps = p :: r ∧ p.key = keyV kk e.key ∧ p.born = e.born ∧ v.rep α p.val ∧ VesRep α kk es r
structure MvOk (α : Al) (kk : List IntKind) (es : List VE) (rs xs ps : List MapEntry) (cl : Nat) : Prop where
  perm : xs.Perm (ps ++ rs)
  rep : VesRep α kk es ps
  keys : es.Pairwise fun a b => a.key ≠ b.key
  lens : ∀ e ∈ es, e.key.length = kk.length
  ints : ∀ x ∈ rs, ∃ l : List Int, l.length = kk.length ∧ x.key = keyV kk l
  apart : rs.Pairwise fun a b => a.key ≠ b.key
  off : ∀ e ∈ es, ∀ x ∈ rs, x.key ≠ keyV kk e.key
  born : (xs.map (·.born)).Nodup
  young : ∀ x ∈ xs, x.born < cl
def fzIn (n : Nat) (fz : Nat × Nat) : Prop := fz = (0, 0) ∨ fz = (n, n + 1)
def fzOk (own : Bool) (cs : Array Value) (fz : Nat × Nat) : Prop := (∀ v ∈ cs.toList, Ev.isCell v = true) ∧ (fz = (0, 0) ∨ (own = true ∧ fz = (cs.size, cs.size + 1)))
theorem fzOk.fzIn {own : Bool} {cs : Array Value} {fz : Nat × Nat} (h : fzOk own cs fz) : fzIn cs.size fz := h.2.imp id (·.2)
theorem fzOk.cells {own : Bool} {cs cs' : Array Value} {fz : Nat × Nat} (h : fzOk own cs fz) (hs : cs'.size = cs.size) (hc : ∀ v ∈ cs'.toList, Ev.isCell v = true) : fzOk own cs' fz := ⟨hc, by rw [hs]; exact h.2⟩
theorem fzOk.own {own : Bool} {cs : Array Value} {fz : Nat × Nat} (h : fzOk own cs fz) : fzOk true cs fz := ⟨h.1, h.2.imp id fun x => ⟨rfl, x.2⟩⟩
theorem fzOk.zero {own : Bool} {cs : Array Value} (h : ∀ v ∈ cs.toList, Ev.isCell v = true) : fzOk own cs (0, 0) := ⟨h, .inl rfl⟩
def ValOk (w : World) (va : Bool) (e : List SC) (v : Value) : Prop :=
  (match va with | true => ∃ a, v = .agg a | false => Ev.isCell v = true) ∧ v.cells.size = e.length ∧ ∀ (j : Nat) (c : SC), e[j]? = some c → ∃ u, v.cells[j]? = some u ∧ CellOk w (fun _ => none) c u ∧ Ev.isCell u = true
def EntOk (w : World) (kc : KC) (va : Bool) (cs : List Col) (bs : List Int) (i : Nat) (x : MapEntry) : Prop :=
  x.key = kc.at i ∧ (x.born : Int) = bs.getD i 0 ∧ ValOk w va (colsAt i cs) x.val
def PartOk (e : Den) (i n : Nat) (a : Option Addr) (c : Nat) : Prop :=
  (0 < n → a = some ⟨e.blk, e.off + i * e.m, none⟩ ∧ c = e.cap - i) ∧
  (n = 0 → (c = 0 ∧ e.cap ≤ i) ∨ (e.live = true ∧ a = some ⟨e.blk, e.off + i * e.m, none⟩ ∧ c = e.cap - i) ∨ (e.live = false ∧ ∃ a', e.val = .slice a' 0 c))
def Good (α : Al) (w : World) (d : Den) : SO → Prop
  | .mem _ k T m ct => d.m = m ∧ 0 < m ∧
    (match k with
     | .ext => d.blk < w.heap.size ∧ ct.Cells w α m fun i j => w.cell? ⟨d.blk, d.off + i * m + j, none⟩
     | k => ∃ (cs : Array Value) (fz : Nat × Nat), w.heap[d.blk]? = some (.cells cs T fz) ∧ fzOk false cs fz ∧ d.off + d.cap * m = cs.size ∧ ct.len ≤ d.cap ∧ (k = .whole → ct.len = d.cap) ∧
        ct.Cells w α m fun i j => cs[d.off + i * m + j]?)
  | .own wr k T m ct => d.m = m ∧ 0 < m ∧
     ((d.live = false ∧ ct.len = 0 ∧ ∃ a c, d.val = .slice a 0 c ∧ (wr = true → c = 0)) ∨
      (d.live = true ∧ d.val = .slice (some ⟨d.blk, d.off, none⟩) ct.len d.cap ∧ ct.len ≤ d.cap ∧
       (match k with
        | .ext => d.blk < w.heap.size ∧ ct.Cells w α m fun i j => w.cell? ⟨d.blk, d.off + i * m + j, none⟩
        | _ => ∃ (cs : Array Value) (fz : Nat × Nat), w.heap[d.blk]? = some (.cells cs T fz) ∧ fzOk true cs fz ∧ d.off + d.cap * m ≤ cs.size ∧
            ct.Cells w α m fun i j => cs[d.off + i * m + j]?)))
  | .clo f a b => ∃ va vb, RepsA α a va ∧ RepsA α b vb ∧ d.val = .func f va.toArray vb.toArray
  | .part o i n => ∃ e a c, α o = some e ∧ d.val = .slice a n c ∧ PartOk e i n a c
  | .nul => ∃ a, d.val = .pointer (some a)
  | .abs _ t D => absGood t D w d
  | .box _ ob => d.val = .pointer (some ⟨d.blk, 0, none⟩) ∧ w.heap[d.blk]? = some ob
  | .mv _ kk es rs cl _ => d.val = .map (some d.blk) ∧ ∃ (xs ps : List MapEntry), w.heap[d.blk]? = some (.map xs.toArray cl) ∧ MvOk α kk es rs xs ps cl
  | .mp _ es cl => d.val = .map (some d.blk) ∧ ∃ xs, w.heap[d.blk]? = some (.map xs.toArray cl) ∧ EntsRep α es xs
  | .mt _ kc va cs bs cl => d.val = .map (some d.blk) ∧ ∃ xs : List MapEntry, w.heap[d.blk]? = some (.map xs.toArray cl) ∧ xs.length = kc.len ∧ bs.length = kc.len ∧ ∀ i x, xs[i]? = some x → EntOk w kc va cs bs i x
  | .lp _ _ fr ps a b s j => d.val = .func (.yield d.blk) #[] #[] ∧ ∃ r, w.heap[d.blk]? = some (.loop r) ∧ FrOk α fr r.tmps ∧ r.params = ps.toArray ∧ r.assign = a ∧ r.body = b ∧ r.state = stOf s ∧ r.pending = j
def SO.lies (so : SO) (w : World) (d : Den) (b : Nat) : Prop := match so with
  | .mem _ .ext _ _ _ => False
  | .mem _ _ _ _ _ => b = d.blk
  | .own _ .ext _ _ _ => False
  | .own _ _ _ _ _ => d.live = true ∧ b = d.blk
  | .mp _ _ _ => b = d.blk
  | .mt _ _ _ _ _ _ => b = d.blk
  | .lp _ _ _ _ _ _ _ _ => b = d.blk
  | .abs _ t D => absLies t D w d b
  | .box _ _ => b = d.blk
  | .mv _ _ _ _ _ _ => b = d.blk
  | _ => False
def Nest (w : World) (d : Den) (m : Nat) (ct : Ct) (b : Nat) : Prop :=
  ∃ i j k xs v, i < ct.len ∧ (ct.get i)[j]? = some (.dat k xs) ∧ w.cell? ⟨d.blk, d.off + i * m + j, none⟩ = some v ∧ DatBlk xs v b
def NestM (w : World) (d : Den) (cs : List Col) (b : Nat) : Prop :=
  ∃ (xs : Array MapEntry) (cl i : Nat) (x : MapEntry) (j : Nat) (k : IntKind) (ys : List Int) (u : Value), w.heap[d.blk]? = some (.map xs cl) ∧ xs[i]? = some x ∧ (colsAt i cs)[j]? = some (.dat k ys) ∧ x.val.cells[j]? = some u ∧ DatBlk ys u b
def Ice (w : World) (d : Den) (so : SO) (b : Nat) : Prop := match so with
  | .mem _ .ext _ m ct => b = d.blk ∨ Nest w d m ct b
  | .mem _ _ _ m ct => Nest w d m ct b
  | .own _ .ext _ m ct => d.live = true ∧ (b = d.blk ∨ Nest w d m ct b)
  | .own _ _ _ m ct => d.live = true ∧ Nest w d m ct b
  | .mt _ _ _ cs _ _ => NestM w d cs b
  | _ => False
def Foot (w : World) (d : Den) (so : SO) (b : Nat) : Prop := so.lies w d b ∨ Ice w d so b
def SO.wr : SO → Bool
  | .mem true .whole _ _ _ => true
  | .mem true .row _ _ _ => true
  | .mem _ _ _ _ _ => false
  | .own true .ext _ _ _ => false
  | .own w _ _ _ _ => w
  | .clo .. => false
  | .part .. => false
  | .nul => false
  | .mp w _ _ => w
  | .mt w _ _ _ _ _ => w
  | .abs w _ _ => w
  | .box w _ => w
  | .mv w _ _ _ _ _ => w
  | .lp w _ _ _ _ _ _ _ => w
structure R (α : Al) (st : St) (w : World) : Prop where
  good : ∀ o so, st.get o = some so → ∃ d, α o = some d ∧ Good α w d so
  sep : ∀ o o' so so' d d' b, o ≠ o' → st.get o = some so → st.get o' = some so' → α o = some d → α o' = some d' → so.wr = true → so.lies w d b → ¬ Foot w d' so' b
  self : ∀ o so d b, st.get o = some so → α o = some d → so.wr = true → so.lies w d b → ¬ Ice w d so b
  none : ∀ o, st.length ≤ o → α o = none
  cell : ∀ o d, α o = some d → Ev.isCell d.val = true
def Wr (α : Al) (st : St) (w : World) (b : Nat) : Prop := ∃ o so d, st.get o = some so ∧ α o = some d ∧ so.wr = true ∧ so.lies w d b
def Fs (α : Al) (st : St) (w : World) (b : Nat) : Prop := ∃ o so d, st.get o = some so ∧ α o = some d ∧ Foot w d so b
def Is (α : Al) (st : St) (w : World) (b : Nat) : Prop := ∃ o so d, st.get o = some so ∧ α o = some d ∧ Ice w d so b
theorem Wr.fs {α : Al} {st : St} {w : World} {b : Nat} (h : Wr α st w b) : Fs α st w b := let ⟨o, so, d, h1, h2, _, h4⟩ := h; ⟨o, so, d, h1, h2, .inl h4⟩
theorem Is.fs {α : Al} {st : St} {w : World} {b : Nat} (h : Is α st w b) : Fs α st w b := let ⟨o, so, d, h1, h2, h4⟩ := h; ⟨o, so, d, h1, h2, .inr h4⟩
theorem R.apart {α : Al} {st : St} {w : World} (h : R α st w) {b : Nat} (h1 : Wr α st w b) (h2 : Is α st w b) : False := by
  obtain ⟨o, so, d, a1, a2, a3, a4⟩ := h1
  obtain ⟨o', so', d', b1, b2, b3⟩ := h2
  by_cases e : o = o'
  · subst e; rw [a1] at b1; cases b1; rw [a2] at b2; cases b2; exact h.self o so d b a1 a2 a3 a4 b3
  · exact h.sep o o' so so' d d' b e a1 b1 a2 b2 a3 a4 (.inr b3)
theorem St.get_eq (st : St) (o : Nat) : st.get o = st[o]?.getD none := by simp [St.get]
theorem St.put_eq (st : St) (o : Nat) (so : Option SO) : st.put o so = st.set o so := by simp [St.put]
theorem St.get_lt {st : St} {o : Nat} {so : SO} (h : st.get o = some so) : o < st.length := by
  rw [St.get_eq] at h
  by_cases ho : o < st.length
  · exact ho
  · rw [List.getElem?_eq_none (by omega)] at h; simp at h
theorem St.get_append_lt {st : St} {x : Option SO} {o : Nat} (h : o < st.length) : St.get (st ++ [x]) o = st.get o := by
  simp only [St.get_eq]; rw [List.getElem?_append_left h]
theorem St.get_append_eq (st : St) (x : Option SO) : St.get (st ++ [x]) st.length = x := by
  simp [St.get_eq]
theorem St.get_append {st : St} {x : Option SO} {o : Nat} {so : SO} (h : St.get (st ++ [x]) o = some so) : st.get o = some so ∨ (o = st.length ∧ x = some so) := by
  have hlt := St.get_lt h
  simp at hlt
  by_cases ho : o < st.length
  · rw [St.get_append_lt ho] at h; exact .inl h
  · have : o = st.length := by omega
    subst this; rw [St.get_append_eq] at h; exact .inr ⟨rfl, h⟩
theorem St.get_put_ne {st : St} {o o' : Nat} {x : Option SO} (h : o ≠ o') : (st.put o x).get o' = st.get o' := by
  simp only [St.get_eq, St.put_eq]; rw [List.getElem?_set_ne h]
theorem St.get_put_eq {st : St} {o : Nat} {x : Option SO} (h : o < st.length) : (st.put o x).get o = x := by
  simp only [St.get_eq, St.put_eq]; rw [List.getElem?_set_self h]; rfl
theorem St.length_put (st : St) (o : Nat) (x : Option SO) : (st.put o x).length = st.length := by simp [St.put_eq]
structure TapeOk (w w' : World) : Prop where
  tape : w'.tape = w.tape
  drawn : w.drawn ≤ w'.drawn
theorem TapeOk.refl {w : World} : TapeOk w w := ⟨rfl, Nat.le_refl _⟩
theorem TapeOk.trans {w w' w'' : World} (h' : TapeOk w' w'') (h : TapeOk w w') : TapeOk w w'' := ⟨h'.tape.trans h.tape, Nat.le_trans h.drawn h'.drawn⟩
theorem TapeOk.of {w w' : World} (h : w'.tape = w.tape) (h' : w'.drawn = w.drawn) : TapeOk w w' := ⟨h, Nat.le_of_eq h'.symm⟩
structure To (α : Al) (st : St) (w : World) (α' : Al) (st' : St) (w' : World) : Prop where
  rep : R α' st' w'
  ext : ∀ o, o < st.length → α' o = α o
  len : st.length ≤ st'.length
  lies : ∀ o so' d b, st'.get o = some so' → α' o = some d → b < w.heap.size → so'.lies w' d b → Wr α st w b ∨ (o < st.length ∧ ∃ so, st.get o = some so ∧ so.lies w d b)
  ice : ∀ o so' d b, st'.get o = some so' → α' o = some d → b < w.heap.size → Ice w' d so' b → Wr α st w b ∨ Is α st w b
  wrs : ∀ b, b < w.heap.size → Wr α' st' w' b → Wr α st w b
  kept : ∀ b, b < w.heap.size → ¬ Wr α st w b → w'.heap[b]? = w.heap[b]?
  size : w.heap.size ≤ w'.heap.size
  tape : TapeOk w w'
  os : w'.os = w.os
  output : w'.output = w.output
theorem To.le {α α' : Al} {st st' : St} {w w' : World} (hR : R α st w) (h : To α st w α' st' w') : α.le α' := by
  intro o d hd
  by_cases ho : o < st.length
  · rw [h.ext o ho]; exact hd
  · rw [hR.none o (by omega)] at hd; simp at hd
theorem To.refl {α : Al} {st : St} {w : World} (hR : R α st w) : To α st w α st w :=
  ⟨hR, fun _ _ => rfl, Nat.le_refl _, fun o so' d b h1 h2 _ h3 => .inr ⟨St.get_lt h1, so', h1, h3⟩, fun o so' d b h1 h2 _ h3 => .inr ⟨o, so', d, h1, h2, h3⟩, fun _ _ h => h, fun _ _ _ => rfl, Nat.le_refl _, .refl, rfl, rfl⟩
theorem To.trans {α α' α'' : Al} {st st' st'' : St} {w w' w'' : World} (h : To α st w α' st' w') (h' : To α' st' w' α'' st'' w'') : To α st w α'' st'' w'' :=
  ⟨h'.rep, fun o ho => (h'.ext o (by have := h.len; omega)).trans (h.ext o ho), Nat.le_trans h.len h'.len,
   fun o so'' d b h1 h2 hb h3 => by
     rcases h'.lies o so'' d b h1 h2 (by have := h.size; omega) h3 with hw | ⟨hlt, so', g1, g2⟩
     · exact .inl (h.wrs b hb hw)
     · exact h.lies o so' d b g1 ((h'.ext o hlt).symm.trans h2) hb g2,
   fun o so'' d b h1 h2 hb h3 => by
     rcases h'.ice o so'' d b h1 h2 (by have := h.size; omega) h3 with hw | ⟨o1, so1, d1, g1, g2, g3⟩
     · exact .inl (h.wrs b hb hw)
     · exact h.ice o1 so1 d1 b g1 g2 hb g3,
   fun b hb hw => h.wrs b hb (h'.wrs b (by have := h.size; omega) hw),
   fun b hb hn => (h'.kept b (by have := h.size; omega) (fun hw => hn (h.wrs b hb hw))).trans (h.kept b hb hn),
   Nat.le_trans h.size h'.size, h'.tape.trans h.tape, h'.os.trans h.os, h'.output.trans h.output⟩
theorem Ct.Cells.mono {w : World} {α β : Al} (h : α.le β) {ct : Ct} {m : Nat} {g g' : Nat → Nat → Option Value} (hg : ∀ i j v, g i j = some v → g' i j = some v)
    (hc : ct.Cells w α m g) : ct.Cells w β m g' := fun i hi =>
  ⟨(hc i hi).1, fun j c hj => let ⟨v, h1, h2, h3⟩ := (hc i hi).2 j c hj; ⟨v, h1.mono h, hg _ _ _ h2, h3⟩⟩
theorem EntsRep.mono {α β : Al} (h : α.le β) : ∀ {es : List SE} {xs : List MapEntry}, EntsRep α es xs → EntsRep β es xs
  | [], [], _ => trivial
  | _ :: _, _ :: _, e => ⟨⟨e.1.1, e.1.2.1, SA.rep_mono h e.1.2.2⟩, EntsRep.mono h e.2⟩
  | [], _ :: _, e => e.elim
  | _ :: _, [], e => e.elim
theorem VesRep.mono {α β : Al} (h : α.le β) {kk : List IntKind} : ∀ {es : List VE} {ps : List MapEntry}, VesRep α kk es ps → VesRep β kk es ps
  | [], _, e => e
  | ⟨key, none, _⟩ :: r, ps, e => VesRep.mono (es := r) h e
  | ⟨key, some v, _⟩ :: r, ps, ⟨p, q, h1, h2, hb, h3, h4⟩ => ⟨p, q, h1, h2, hb, SA.rep_mono h h3, VesRep.mono h h4⟩
theorem MvOk.mono {α β : Al} (h : α.le β) {kk : List IntKind} {es : List VE} {rs xs ps : List MapEntry} {cl : Nat} (m : MvOk α kk es rs xs ps cl) : MvOk β kk es rs xs ps cl := { m with rep := m.rep.mono h }
theorem cell?_congr {w w' : World} {a : Addr} (h : w'.heap[a.block]? = w.heap[a.block]?) : w'.cell? a = w.cell? a := by
  simp only [World.cell?, h]
theorem DatOk.congr {w w' : World} {k : IntKind} {xs : List Int} {v : Value} (h : DatOk w k xs v) (hb : ∀ b, DatBlk xs v b → w'.heap[b]? = w.heap[b]?) (hs : w.heap.size ≤ w'.heap.size) : DatOk w' k xs v := by
  rcases h with h | ⟨h1, b, o, c, rfl, h2, h3, h4⟩
  · exact .inl h
  · refine .inr ⟨h1, b, o, c, rfl, h2, by omega, fun i hi => ?_⟩
    rw [cell?_congr (w := w) (hb b ⟨h1, o, _, _, rfl⟩)]; exact h4 i hi
theorem Ct.Cells.congr {w w' : World} {α β : Al} (h : α.le β) {ct : Ct} {m : Nat} {g g' : Nat → Nat → Option Value} (hg : ∀ i j v, g i j = some v → g' i j = some v)
    (hs : w.heap.size ≤ w'.heap.size) (hb : ∀ i j k xs v b, i < ct.len → (ct.get i)[j]? = some (.dat k xs) → g i j = some v → DatBlk xs v b → w'.heap[b]? = w.heap[b]?)
    (hc : ct.Cells w α m g) : ct.Cells w' β m g' := fun i hi =>
  ⟨(hc i hi).1, fun j c hj => by
    obtain ⟨v, h1, h2, h3⟩ := (hc i hi).2 j c hj
    refine ⟨v, ?_, hg _ _ _ h2, h3⟩
    cases c with
    | dat k xs => exact DatOk.congr h1 (fun b hd => hb i j k xs v b hi hj h2 hd) hs
    | _ => exact SC.val?_mono h h1⟩
theorem cell_of_cells {w : World} {b : Nat} {cs : Array Value} {T : TypeId} {fz : Nat × Nat} (h : w.heap[b]? = some (.cells cs T fz)) (x : Nat) : w.cell? ⟨b, x, none⟩ = cs[x]? := by
  simp [World.cell?, h]
theorem Good.congr {α β : Al} (h : α.le β) {w w' : World} {d : Den} {so : SO} (hb : ∀ b, Foot w d so b → w'.heap[b]? = w.heap[b]?) (hs : w.heap.size ≤ w'.heap.size)
    (hg : Good α w d so) : Good β w' d so := by
  cases so with
  | mem wb k T m ct =>
    obtain ⟨h1, h2, h4⟩ := hg
    refine ⟨h1, h2, ?_⟩
    cases k with
    | ext =>
      have hb0 := hb d.blk (.inr (.inl rfl))
      obtain ⟨h5, h6⟩ := h4
      exact ⟨by omega, h6.congr h (fun i j v e => by rw [cell?_congr (w := w) (by exact hb0)]; exact e) hs fun i j k xs v b x1 x2 x3 x4 => hb b (.inr (.inr ⟨i, j, k, xs, v, x1, x2, x3, x4⟩))⟩
    | whole =>
      have hb0 := hb d.blk (.inl rfl)
      obtain ⟨cs, fz, h5, h6, h7, h8, h9, h10⟩ := h4
      exact ⟨cs, fz, hb0.trans h5, h6, h7, h8, h9, h10.congr h (fun _ _ _ e => e) hs fun i j k xs v b x1 x2 x3 x4 => hb b (.inr ⟨i, j, k, xs, v, x1, x2, by rw [cell_of_cells h5]; exact x3, x4⟩)⟩
    | row =>
      have hb0 := hb d.blk (.inl rfl)
      obtain ⟨cs, fz, h5, h6, h7, h8, h9, h10⟩ := h4
      exact ⟨cs, fz, hb0.trans h5, h6, h7, h8, h9, h10.congr h (fun _ _ _ e => e) hs fun i j k xs v b x1 x2 x3 x4 => hb b (.inr ⟨i, j, k, xs, v, x1, x2, by rw [cell_of_cells h5]; exact x3, x4⟩)⟩
  | own wb k T m ct =>
    obtain ⟨h1, h2, h3 | ⟨h3, hv, hcap, h4⟩⟩ := hg
    · exact ⟨h1, h2, .inl h3⟩
    · refine ⟨h1, h2, .inr ⟨h3, hv, hcap, ?_⟩⟩
      cases k with
      | ext =>
        have hb0 := hb d.blk (.inr ⟨h3, .inl rfl⟩)
        obtain ⟨h5, h6⟩ := h4
        exact ⟨by omega, h6.congr h (fun i j v e => by rw [cell?_congr (w := w) (by exact hb0)]; exact e) hs fun i j k xs v b x1 x2 x3 x4 => hb b (.inr ⟨h3, .inr ⟨i, j, k, xs, v, x1, x2, x3, x4⟩⟩)⟩
      | whole =>
        have hb0 := hb d.blk (.inl ⟨h3, rfl⟩)
        obtain ⟨cs, fz, h5, h6, h7, h10⟩ := h4
        exact ⟨cs, fz, hb0.trans h5, h6, h7, h10.congr h (fun _ _ _ e => e) hs fun i j k xs v b x1 x2 x3 x4 => hb b (.inr ⟨h3, i, j, k, xs, v, x1, x2, by rw [cell_of_cells h5]; exact x3, x4⟩)⟩
      | row =>
        have hb0 := hb d.blk (.inl ⟨h3, rfl⟩)
        obtain ⟨cs, fz, h5, h6, h7, h10⟩ := h4
        exact ⟨cs, fz, hb0.trans h5, h6, h7, h10.congr h (fun _ _ _ e => e) hs fun i j k xs v b x1 x2 x3 x4 => hb b (.inr ⟨h3, i, j, k, xs, v, x1, x2, by rw [cell_of_cells h5]; exact x3, x4⟩)⟩
  | clo f a b => obtain ⟨va, vb, h1, h2, h3⟩ := hg; exact ⟨va, vb, h1.mono h, h2.mono h, h3⟩
  | part o i n => obtain ⟨e, a, c, h1, h2⟩ := hg; exact ⟨e, a, c, h _ _ h1, h2⟩
  | nul => exact hg
  | abs wb t D => exact absGood_congr (t := t) hg (fun b h => hb b (.inl h)) hs
  | box wb ob => exact ⟨hg.1, (hb _ (.inl rfl)).trans hg.2⟩
  | mv wb kk es rs cl hot => obtain ⟨h1, xs, ps, h2, h3⟩ := hg; exact ⟨h1, xs, ps, (hb _ (.inl rfl)).trans h2, h3.mono h⟩
  | mp k es cl => obtain ⟨h1, xs, h2, h3⟩ := hg; exact ⟨h1, xs, (hb _ (.inl rfl)).trans h2, h3.mono h⟩
  | mt wb kc va cs bs cl =>
    obtain ⟨h1, xs, h2, h3, h4, h5⟩ := hg
    refine ⟨h1, xs, (hb _ (.inl rfl)).trans h2, h3, h4, fun i x hx => ?_⟩
    obtain ⟨a1, a2, a3, a4, a5⟩ := h5 i x hx
    refine ⟨a1, a2, a3, a4, fun j c hj => ?_⟩
    obtain ⟨u, b1, b2, b3⟩ := a5 j c hj
    refine ⟨u, b1, ?_, b3⟩
    cases c with
    | dat k ys => exact DatOk.congr b2 (fun b hd => hb b (.inr ⟨xs.toArray, cl, i, x, j, k, ys, u, h2, by simpa using hx, hj, b1, hd⟩)) hs
    | _ => exact b2
  | lp wb f fr ps a b s j => obtain ⟨h1, r, h2, h3, h4⟩ := hg; exact ⟨h1, r, (hb _ (.inl rfl)).trans h2, h3.mono h, h4⟩
theorem Nest.congr {w w' : World} {d : Den} {m : Nat} {ct : Ct} {b : Nat} (hb : w'.heap[d.blk]? = w.heap[d.blk]?) (h : Nest w' d m ct b) : Nest w d m ct b := by
  obtain ⟨i, j, k, xs, v, h1, h2, h3, h4⟩ := h
  exact ⟨i, j, k, xs, v, h1, h2, by rw [cell?_congr (w := w) (by exact hb)] at h3; exact h3, h4⟩
theorem Ice.congr {w w' : World} {d : Den} {so : SO} {b : Nat} (hb : ∀ b, Foot w d so b → w'.heap[b]? = w.heap[b]?) (h : Ice w' d so b) : Ice w d so b := by
  cases so with
  | mem wb k T m ct =>
    cases k with
    | ext => exact h.imp id (Nest.congr (hb d.blk (.inr (.inl rfl))))
    | whole => exact Nest.congr (hb d.blk (.inl rfl)) h
    | row => exact Nest.congr (hb d.blk (.inl rfl)) h
  | own wb k T m ct =>
    cases k with
    | ext => exact ⟨h.1, h.2.imp id (Nest.congr (hb d.blk (.inr ⟨h.1, .inl rfl⟩)))⟩
    | whole => exact ⟨h.1, Nest.congr (hb d.blk (.inl ⟨h.1, rfl⟩)) h.2⟩
    | row => exact ⟨h.1, Nest.congr (hb d.blk (.inl ⟨h.1, rfl⟩)) h.2⟩
  | mt wb kc va cs bs cl =>
    obtain ⟨xs, cl', i, x, j, k, ys, u, h1, h2⟩ := h
    exact ⟨xs, cl', i, x, j, k, ys, u, (hb d.blk (.inl rfl)).symm.trans h1, h2⟩
  | _ => exact h
theorem SO.lies_congr {α : Al} {w w' : World} {d : Den} {so : SO} {b : Nat} (hg : Good α w d so) (hb : ∀ b, Foot w d so b → w'.heap[b]? = w.heap[b]?) (h : so.lies w' d b) : so.lies w d b := by
  cases so with
  | abs wb t D => exact absLies_congr (t := t) (show absGood t D w d from hg) (fun b h => hb b (.inl h)) h
  | mem wb k T m ct => cases k <;> exact h
  | own wb k T m ct => cases k <;> exact h
  | _ => exact h
theorem Foot.congr {α : Al} {w w' : World} {d : Den} {so : SO} {b : Nat} (_hg : Good α w d so) (hb : ∀ b, Foot w d so b → w'.heap[b]? = w.heap[b]?) (h : Foot w' d so b) : Foot w d so b := h.imp (SO.lies_congr _hg hb) (Ice.congr hb)
theorem Foot.of_own {w : World} {d : Den} {so : SO} {b : Nat} (h : so.lies w d b) : Foot w d so b := .inl h
theorem Nest.lt {w : World} {α : Al} {d : Den} {m : Nat} {ct : Ct} {b : Nat} {g : Nat → Nat → Option Value} (hc : ct.Cells w α m g) (hg : ∀ i j, g i j = w.cell? ⟨d.blk, d.off + i * m + j, none⟩) (h : Nest w d m ct b) : b < w.heap.size := by
  obtain ⟨i, j, k, xs, v, h1, h2, h3, h4, o, n, c, e⟩ := h
  obtain ⟨v', x1, x2, _⟩ := (hc i h1).2 j _ h2
  rw [hg, h3] at x2; cases x2
  rcases (x1 : DatOk w k xs v) with ⟨y, _⟩ | ⟨_, b', o', c', e', _, y, _⟩
  · exact absurd y h4
  · rw [e] at e'; simp at e'; omega
theorem Good.lt {α : Al} {w : World} {d : Den} {so : SO} (hg : Good α w d so) {b : Nat} (hh : Foot w d so b) : b < w.heap.size := by
  cases so with
  | mem wb k T m ct =>
    obtain ⟨_, _, h4⟩ := hg
    cases k with
    | ext =>
      rcases hh with hh | rfl | hh
      · exact hh.elim
      · exact h4.1
      · exact hh.lt h4.2 (fun _ _ => rfl)
    | whole =>
      obtain ⟨cs, fz, h5, _, _, _, _, h6⟩ := h4
      rcases hh with hh | hh
      · obtain rfl : b = d.blk := hh; exact (Array.getElem?_eq_some_iff.1 h5).1
      · exact Nest.lt h6 (fun i j => (cell_of_cells h5 _).symm) hh
    | row =>
      obtain ⟨cs, fz, h5, _, _, _, _, h6⟩ := h4
      rcases hh with hh | hh
      · obtain rfl : b = d.blk := hh; exact (Array.getElem?_eq_some_iff.1 h5).1
      · exact Nest.lt h6 (fun i j => (cell_of_cells h5 _).symm) hh
  | own wb k T m ct =>
    obtain ⟨_, _, ⟨h3, _⟩ | ⟨_, _, _, h4⟩⟩ := hg
    · cases k <;> rcases hh with hh | hh <;> first | exact hh.elim | (have := hh.1; rw [h3] at this; cases this)
    · cases k with
      | ext =>
        rcases hh with hh | ⟨_, rfl | hh⟩
        · exact hh.elim
        · exact h4.1
        · exact hh.lt h4.2 (fun _ _ => rfl)
      | whole =>
        obtain ⟨cs, fz, h5, _, _, h6⟩ := h4
        rcases hh with hh | hh
        · obtain ⟨_, rfl⟩ : d.live = true ∧ b = d.blk := hh; exact (Array.getElem?_eq_some_iff.1 h5).1
        · exact Nest.lt h6 (fun i j => (cell_of_cells h5 _).symm) hh.2
      | row =>
        obtain ⟨cs, fz, h5, _, _, h6⟩ := h4
        rcases hh with hh | hh
        · obtain ⟨_, rfl⟩ : d.live = true ∧ b = d.blk := hh; exact (Array.getElem?_eq_some_iff.1 h5).1
        · exact Nest.lt h6 (fun i j => (cell_of_cells h5 _).symm) hh.2
  | clo f a b => exact hh.elim (fun h => h.elim) (fun h => h.elim)
  | part o i n => exact hh.elim (fun h => h.elim) (fun h => h.elim)
  | nul => exact hh.elim (fun h => h.elim) (fun h => h.elim)
  | abs wb t D => exact hh.elim (fun h => absLies_lt (t := t) hg h) (fun h => h.elim)
  | box wb ob =>
    rcases hh with hh | hh
    · obtain rfl : b = d.blk := hh; exact (Array.getElem?_eq_some_iff.1 hg.2).1
    · exact hh.elim
  | mv wb kk es rs cl hot =>
    rcases hh with hh | hh
    · obtain rfl : b = d.blk := hh; obtain ⟨_, xs, ps, h2, _⟩ := hg; exact (Array.getElem?_eq_some_iff.1 h2).1
    · exact hh.elim
  | mp k es cl =>
    rcases hh with hh | hh
    · obtain rfl : b = d.blk := hh; obtain ⟨_, xs, h2, _⟩ := hg; exact (Array.getElem?_eq_some_iff.1 h2).1
    · exact hh.elim
  | mt wb kc va cs bs cl =>
    obtain ⟨_, xs, h2, _, _, h5⟩ := hg
    rcases hh with hh | hh
    · obtain rfl : b = d.blk := hh; exact (Array.getElem?_eq_some_iff.1 h2).1
    · obtain ⟨xs', cl', i, x, j, k, ys, u, g1, g2, g3, g4, g5, o, n, c, e⟩ := hh
      rw [h2] at g1; cases g1
      obtain ⟨_, _, _, _, a5⟩ := h5 i x (by simpa using g2)
      obtain ⟨u', b1, b2, _⟩ := a5 j _ g3
      rw [g4] at b1; cases b1
      rcases (b2 : DatOk w k ys u) with ⟨y, _⟩ | ⟨_, b', o', c', e', _, y, _⟩
      · exact absurd y g5
      · rw [e] at e'; simp at e'; omega
  | lp wb f fr ps a b s j =>
    rcases hh with hh | hh
    · obtain rfl := (hh : _ = d.blk); obtain ⟨_, r, h2, _⟩ := hg; exact (Array.getElem?_eq_some_iff.1 h2).1
    · exact hh.elim
theorem Good.kept {α β : Al} {w w' : World} {d : Den} {so : SO} (hg : Good α w d so) (h : α.le β) (hb : ∀ b, Foot w d so b → w'.heap[b]? = w.heap[b]?) (hs : w.heap.size ≤ w'.heap.size) :
    Good β w' d so ∧ ∀ b, Foot w' d so b → Foot w d so b := ⟨hg.congr h hb hs, fun _ hf => Foot.congr hg hb hf⟩
def Al.add (α : Al) (n : Nat) (d : Den) : Al := fun o => if o = n then some d else α o
theorem Al.add_same {α : Al} {n : Nat} {d : Den} : α.add n d n = some d := by simp [Al.add]
theorem Al.add_other {α : Al} {n o : Nat} {d : Den} (h : o ≠ n) : α.add n d o = α o := by simp [Al.add, h]
theorem Al.le_add {α : Al} {n : Nat} {d : Den} (h : α n = none) : α.le (α.add n d) := by
  intro o e he
  by_cases ho : o = n
  · subst ho; rw [h] at he; simp at he
  · rw [Al.add_other ho]; exact he
theorem Al.cell_add {α : Al} {n : Nat} {d : Den} (h : ∀ o e, α o = some e → Ev.isCell e.val = true) (hd : Ev.isCell d.val = true) :
    ∀ o e, α.add n d o = some e → Ev.isCell e.val = true := by
  intro o e he
  by_cases ho : o = n
  · subst ho; rw [Al.add_same] at he; cases he; exact hd
  · rw [Al.add_other ho] at he; exact h o e he
theorem R.congr {α : Al} {st : St} {w w' : World} (h : R α st w) (hh : w'.heap = w.heap) : R α st w' :=
  have key : ∀ o so d, st.get o = some so → α o = some d → Good α w' d so ∧ (∀ b, Foot w' d so b → Foot w d so b) ∧ ∀ b, so.lies w' d b → so.lies w d b := fun o so d ho hd => by
    obtain ⟨d', h1, h2⟩ := h.good o so ho
    rw [hd] at h1; cases h1
    obtain ⟨k1, k2⟩ := h2.kept (Al.le.refl _) (fun _ _ => by rw [hh]) (by rw [hh]; exact Nat.le_refl _)
    exact ⟨k1, k2, fun b => SO.lies_congr h2 fun _ _ => by rw [hh]⟩
  ⟨fun o so ho => let ⟨d, h1, h2⟩ := h.good o so ho; ⟨d, h1, (key o so d ho h1).1⟩, fun o o' so so' d d' b hne ho ho' hd hd' hw hb hf => h.sep o o' so so' d d' b hne ho ho' hd hd' hw ((key o so d ho hd).2.2 b hb) ((key o' so' d' ho' hd').2.1 b hf),
   fun o so d b ho hd hw hb hi => h.self o so d b ho hd hw ((key o so d ho hd).2.2 b hb) (Ice.congr (fun _ _ => by rw [hh]) hi), h.none, h.cell⟩
theorem R.lies_back {α : Al} {st : St} {w w' : World} (h : R α st w) (hh : w'.heap = w.heap) {o : Nat} {so : SO} {d : Den} (ho : st.get o = some so) (hd : α o = some d) {b : Nat} (hb : so.lies w' d b) : so.lies w d b := by
  obtain ⟨d', h1, h2⟩ := h.good o so ho
  rw [hd] at h1; cases h1
  exact SO.lies_congr h2 (fun _ _ => by rw [hh]) hb
theorem To.of_heap {α : Al} {st : St} {w w' : World} (h : R α st w) (hh : w'.heap = w.heap) (ht : TapeOk w w') (ho : w'.os = w.os) (hp : w'.output = w.output) : To α st w α st w' :=
  ⟨h.congr hh, fun _ _ => rfl, Nat.le_refl _, fun o so d b h1 h2 _ h3 => .inr ⟨St.get_lt h1, so, h1, h.lies_back hh h1 h2 h3⟩,
   fun o so d b h1 h2 _ h3 => .inr ⟨o, so, d, h1, h2, Ice.congr (fun _ _ => by rw [hh]) h3⟩, fun _ _ ⟨o, so, d, x1, x2, x3, x4⟩ => ⟨o, so, d, x1, x2, x3, h.lies_back hh x1 x2 x4⟩, fun _ _ _ => by rw [hh], by rw [hh]; exact Nat.le_refl _, ht, ho, hp⟩
theorem To.drew {α : Al} {st : St} {w : World} (h : R α st w) : To α st w α st w.drew := To.of_heap h rfl ⟨rfl, Nat.le_succ _⟩ rfl rfl
theorem heap_alloc_lt (w : World) (o : Obj) {k : Nat} (h : k < w.heap.size) : (w.alloc o).heap[k]? = w.heap[k]? := RowKit.Below.heap_alloc w o k h
theorem heap_alloc_eq (w : World) (o : Obj) : (w.alloc o).heap[w.heap.size]? = some o := by
  show (w.heap.push o)[w.heap.size]? = _
  simp
theorem To.one {α α' : Al} {st st' : St} {w w' : World} (h : R α st w) {n : Nat} {so' : SO} {d : Den} (S : Nat → Prop)
    (hα : (n < st.length ∧ α n = some d ∧ α' = α) ∨ (n = st.length ∧ α' = α.add n d)) (hcell : Ev.isCell d.val = true)
    (hn : st'.get n = some so') (hst : ∀ o so, o ≠ n → st'.get o = some so → st.get o = some so) (hlen : st.length ≤ st'.length) (hlen' : n < st'.length ∧ (n < st.length → st'.length = st.length) ∧ st'.length ≤ st.length + 1)
    (hS : ∀ b, S b → Wr α st w b) (hSo : ∀ o so d1 b, o ≠ n → st'.get o = some so → st.get o = some so → α o = some d1 → S b → ¬ Foot w d1 so b)
    (hs : w.heap.size ≤ w'.heap.size) (hb : ∀ b, b < w.heap.size → ¬ S b → w'.heap[b]? = w.heap[b]?) (ht : TapeOk w w') (hos : w'.os = w.os) (hp : w'.output = w.output)
    (hg : Good α' w' d so') (hl : ∀ b, so'.lies w' d b → w.heap.size ≤ b ∨ S b ∨ (so'.wr = false ∧ n < st.length ∧ ∃ so, st.get n = some so ∧ so.lies w d b))
    (hi : ∀ b, Ice w' d so' b → w.heap.size ≤ b ∨ S b ∨ Is α st w b) (hself : so'.wr = true → ∀ b, so'.lies w' d b → ¬ Ice w' d so' b) : To α st w α' st' w' := by
  have hnone := h.none
  have hle : α.le α' := by
    rcases hα with ⟨_, _, rfl⟩ | ⟨e, rfl⟩
    · exact Al.le.refl _
    · exact Al.le_add (by rw [e]; exact hnone _ (Nat.le_refl _))
  have hat : α' n = some d := by
    rcases hα with ⟨_, e, rfl⟩ | ⟨_, rfl⟩
    · exact e
    · exact Al.add_same
  have hext : ∀ o, o < st.length → α' o = α o := by
    intro o ho
    rcases hα with ⟨_, _, rfl⟩ | ⟨e, rfl⟩
    · rfl
    · exact Al.add_other (by omega)
  have old : ∀ o so1, o ≠ n → st'.get o = some so1 → st.get o = some so1 ∧ o < st.length ∧ ∃ d1, α o = some d1 ∧ α' o = some d1 ∧ Good α' w' d1 so1 ∧ (∀ b, Foot w' d1 so1 b → Foot w d1 so1 b) ∧ (∀ b, Ice w' d1 so1 b → Ice w d1 so1 b) ∧ (∀ b, Foot w d1 so1 b → b < w.heap.size) ∧ ∀ b, so1.lies w' d1 b → so1.lies w d1 b := fun o so1 hne ho => by
    have ho' := hst o so1 hne ho
    have hlt := St.get_lt ho'
    obtain ⟨d1, x1, x2⟩ := h.good o so1 ho'
    have hag : ∀ b, Foot w d1 so1 b → w'.heap[b]? = w.heap[b]? := fun b hf => hb b (x2.lt hf) fun hSb => hSo o so1 d1 b hne ho ho' x1 hSb hf
    obtain ⟨g1, g2⟩ := x2.kept hle hag hs
    exact ⟨ho', hlt, d1, x1, (hext o hlt).trans x1, g1, g2, fun b => Ice.congr hag, fun b => x2.lt, fun b => SO.lies_congr x2 hag⟩
  refine ⟨⟨?_, ?_, ?_, ?_, ?_⟩, hext, hlen, ?_, ?_, ?_, fun b hb1 hn1 => hb b hb1 fun hSb => hn1 (hS b hSb), hs, ht, hos, hp⟩
  · intro o so1 ho
    by_cases e : o = n
    · subst e; rw [hn] at ho; cases ho; exact ⟨d, hat, hg⟩
    · obtain ⟨_, _, d1, _, x1, x2, _⟩ := old o so1 e ho; exact ⟨d1, x1, x2⟩
  · intro o o' so1 so2 d1 d2 b hne h1 h2 e1 e2 hw hbl hf
    by_cases c1 : o = n
    · subst c1
      rw [hn] at h1; cases h1
      rw [hat] at e1; cases e1
      obtain ⟨y1, y2, d2', y3, y4, _, y5, _, y6, _⟩ := old o' so2 (fun e => hne e.symm) h2
      rw [y4] at e2; cases e2
      have hfo := y5 b hf
      rcases hl b hbl with hge | hSb | ⟨hwf, _⟩
      · have := y6 b hfo; omega
      · exact hSo o' so2 d2 b (fun e => hne e.symm) h2 y1 y3 hSb hfo
      · rw [hw] at hwf; cases hwf
    · obtain ⟨y1, y2, d1', y3, y4, _, _, _, y6, y8⟩ := old o so1 c1 h1
      rw [y4] at e1; cases e1
      replace hbl := y8 b hbl
      by_cases c2 : o' = n
      · subst c2
        rw [hn] at h2; cases h2
        rw [hat] at e2; cases e2
        have hlt := y6 b (.inl hbl)
        rcases hf with hf | hf
        · rcases hl b hf with hge | hSb | ⟨_, _, so, z1, z2⟩
          · omega
          · exact hSo o so1 d1 b c1 h1 y1 y3 hSb (.inl hbl)
          · have hdn : α o' = some d := by rw [← hext o' (St.get_lt z1)]; exact hat
            exact h.sep o o' so1 so d1 d b hne y1 z1 y3 hdn hw hbl (.inl z2)
        · rcases hi b hf with hge | hSb | hIs
          · omega
          · exact hSo o so1 d1 b c1 h1 y1 y3 hSb (.inl hbl)
          · exact h.apart ⟨o, so1, d1, y1, y3, hw, hbl⟩ hIs
      · obtain ⟨z1, _, d2', z3, z4, _, z5, _⟩ := old o' so2 c2 h2
        rw [z4] at e2; cases e2
        exact h.sep o o' so1 so2 d1 d2 b hne y1 z1 y3 z3 hw hbl (z5 b hf)
  · intro o so1 d1 b h1 e1 hw hbl hic
    by_cases c1 : o = n
    · subst c1
      rw [hn] at h1; cases h1
      rw [hat] at e1; cases e1
      exact hself hw b hbl hic
    · obtain ⟨y1, _, d1', y3, y4, _, _, y7, _, y8⟩ := old o so1 c1 h1
      rw [y4] at e1; cases e1
      replace hbl := y8 b hbl
      exact h.self o so1 d1 b y1 y3 hw hbl (y7 b hic)
  · intro o ho
    rcases hα with ⟨_, _, rfl⟩ | ⟨e, rfl⟩
    · exact hnone o (by omega)
    · rw [Al.add_other (by omega)]; exact hnone o (by omega)
  · rcases hα with ⟨_, _, rfl⟩ | ⟨e, rfl⟩
    · exact h.cell
    · exact Al.cell_add h.cell hcell
  · intro o so1 d1 b h1 e1 hlt hbl
    by_cases c1 : o = n
    · subst c1
      rw [hn] at h1; cases h1
      rw [hat] at e1; cases e1
      rcases hl b hbl with hge | hSb | ⟨_, hlt1, z⟩
      · omega
      · exact .inl (hS b hSb)
      · exact .inr ⟨hlt1, z⟩
    · obtain ⟨y1, y2, d1', y3, y4, _, _, _, _, y8⟩ := old o so1 c1 h1
      rw [y4] at e1; cases e1
      exact .inr ⟨y2, so1, y1, y8 b hbl⟩
  · intro o so1 d1 b h1 e1 hlt hic
    by_cases c1 : o = n
    · subst c1
      rw [hn] at h1; cases h1
      rw [hat] at e1; cases e1
      rcases hi b hic with hge | hSb | hIs
      · omega
      · exact .inl (hS b hSb)
      · exact .inr hIs
    · obtain ⟨y1, _, d1', y3, y4, _, _, y7, _⟩ := old o so1 c1 h1
      rw [y4] at e1; cases e1
      exact .inr ⟨o, so1, d1, y1, y3, y7 b hic⟩
  · rintro b hlt ⟨o, so1, d1, h1, e1, hw, hbl⟩
    by_cases c1 : o = n
    · subst c1
      rw [hn] at h1; cases h1
      rw [hat] at e1; cases e1
      rcases hl b hbl with hge | hSb | ⟨hwf, _⟩
      · omega
      · exact hS b hSb
      · rw [hw] at hwf; cases hwf
    · obtain ⟨y1, _, d1', y3, y4, _, _, _, _, y8⟩ := old o so1 c1 h1
      rw [y4] at e1; cases e1
      exact ⟨o, so1, d1, y1, y3, hw, y8 b hbl⟩
theorem To.add {α : Al} {st : St} {w w' : World} (h : R α st w) {so : SO} {d : Den} (hcell : Ev.isCell d.val = true) (hs : w.heap.size ≤ w'.heap.size)
    (hk : ∀ b, b < w.heap.size → w'.heap[b]? = w.heap[b]?) (ht : TapeOk w w') (hos : w'.os = w.os) (hp : w'.output = w.output)
    (hg : Good (α.add st.length d) w' d so) (hf : ∀ b, so.lies w' d b → w.heap.size ≤ b) (hi : ∀ b, Ice w' d so b → w.heap.size ≤ b ∨ Is α st w b) (hself : so.wr = true → ∀ b, so.lies w' d b → ¬ Ice w' d so b) :
    To α st w (α.add st.length d) (st ++ [some so]) w' :=
  To.one h (n := st.length) (fun _ => False) (.inr ⟨rfl, rfl⟩) hcell (St.get_append_eq _ _) (fun o so1 hne ho => (St.get_append ho).elim id fun e => absurd e.1 hne) (by simp) ⟨by simp, fun e => by omega, by simp⟩
    (fun _ e => e.elim) (fun _ _ _ _ _ _ _ _ e => e.elim) hs (fun b hb _ => hk b hb) ht hos hp hg (fun b hb => .inl (hf b hb)) (fun b hb => (hi b hb).imp id .inr) hself
theorem To.new {α : Al} {st : St} {w : World} (h : R α st w) {ob : Obj} {so : SO} {d : Den} (hd : ∀ b, so.lies (w.alloc ob) d b → b = w.heap.size) (hi : ∀ b, Ice (w.alloc ob) d so b → Is α st w b) (hcell : Ev.isCell d.val = true)
    (hg : Good (α.add st.length d) (w.alloc ob) d so) : To α st w (α.add st.length d) (st ++ [some so]) (w.alloc ob) :=
  To.add h hcell (by simp) (fun b hb => heap_alloc_lt w ob hb) (.of rfl rfl) rfl rfl hg (fun b hb => by rw [hd b hb]; exact Nat.le_refl _) (fun b hb => .inr (hi b hb))
    fun _ b hb hic => by
      obtain ⟨o1, so1, d1, h1, h2, h3⟩ := hi b hic
      obtain ⟨d', g1, g2⟩ := h.good o1 so1 h1
      rw [h2] at g1; cases g1
      have := g2.lt (.inr h3)
      have := hd b hb
      omega
theorem To.ghost {α : Al} {st : St} {w : World} (h : R α st w) {so : SO} {d : Den} (hd : ∀ b, ¬ so.lies w d b) (hi : ∀ b, Ice w d so b → Is α st w b) (hcell : Ev.isCell d.val = true)
    (hg : Good (α.add st.length d) w d so) : To α st w (α.add st.length d) (st ++ [some so]) w :=
  To.add h hcell (Nat.le_refl _) (fun _ _ => rfl) (.of rfl rfl) rfl rfl hg (fun b hb => absurd hb (hd b)) (fun b hb => .inr (hi b hb)) fun _ b hb => absurd hb (hd b)
theorem To.upd {α : Al} {st : St} {w w' : World} (h : R α st w) {o : Nat} {so so' : SO} {d : Den} (ho : st.get o = some so) (hd : α o = some d)
    (hw : so.wr = true) (hs : w'.heap.size = w.heap.size) (hb : ∀ b, ¬ so.lies w d b → w'.heap[b]? = w.heap[b]?)
    (ht : TapeOk w w') (hos : w'.os = w.os) (hp : w'.output = w.output) (hg : Good α w' d so') (hf : ∀ b, so'.lies w' d b → so.lies w d b)
    (hi : ∀ b, Ice w' d so' b → so.lies w d b ∨ Is α st w b) (hself : so'.wr = true → ∀ b, so'.lies w' d b → ¬ Ice w' d so' b) : To α st w α (st.put o (some so')) w' := by
  have hlt := St.get_lt ho
  refine To.one h (n := o) (fun b => so.lies w d b) (.inl ⟨hlt, hd, rfl⟩) (h.cell o d hd) (St.get_put_eq hlt) (fun o1 so1 hne h1 => by rw [St.get_put_ne (fun e => hne e.symm)] at h1; exact h1) (by rw [St.length_put]; exact Nat.le_refl _)
    ⟨by rw [St.length_put]; exact hlt, fun _ => St.length_put _ _ _, by rw [St.length_put]; omega⟩ (fun b hb1 => ⟨o, so, d, ho, hd, hw, hb1⟩) ?_ (by omega) (fun b _ hn => hb b hn) ht hos hp hg (fun b hb1 => .inr (.inl (hf b hb1))) (fun b hb1 => .inr (hi b hb1)) hself
  intro o1 so1 d1 b hne _ h1 e1 hb1 hf1
  exact h.sep o o1 so so1 d d1 b (fun e => hne e.symm) ho h1 hd e1 hw hb1 hf1
theorem To.same {α : Al} {st : St} {w : World} (h : R α st w) {o : Nat} {so so' : SO} {d : Den} (ho : st.get o = some so) (hd : α o = some d)
    (hg : Good α w d so') (hf : ∀ b, so'.lies w d b → so.lies w d b) (hw : so'.wr = true → so.wr = true)
    (hi : ∀ b, Ice w d so' b → (so.wr = true ∧ so.lies w d b) ∨ Is α st w b) (hself : so'.wr = true → ∀ b, so'.lies w d b → ¬ Ice w d so' b) : To α st w α (st.put o (some so')) w := by
  have hlt := St.get_lt ho
  refine To.one h (n := o) (fun b => so.wr = true ∧ so.lies w d b) (.inl ⟨hlt, hd, rfl⟩) (h.cell o d hd) (St.get_put_eq hlt) (fun o1 so1 hne h1 => by rw [St.get_put_ne (fun e => hne e.symm)] at h1; exact h1) (by rw [St.length_put]; exact Nat.le_refl _)
    ⟨by rw [St.length_put]; exact hlt, fun _ => St.length_put _ _ _, by rw [St.length_put]; omega⟩ (fun b hb1 => ⟨o, so, d, ho, hd, hb1.1, hb1.2⟩) ?_ (Nat.le_refl _) (fun b _ hn => rfl) (.of rfl rfl) rfl rfl hg ?_ (fun b hb1 => .inr (hi b hb1)) hself
  · intro o1 so1 d1 b hne _ h1 e1 hb1 hf1
    exact h.sep o o1 so so1 d d1 b (fun e => hne e.symm) ho h1 hd e1 hb1.1 hb1.2 hf1
  · intro b hb1
    have hb2 := hf b hb1
    cases hso : so.wr with
    | true => exact .inr (.inl ⟨rfl, hb2⟩)
    | false =>
      refine .inr (.inr ⟨?_, hlt, so, ho, hb2⟩)
      cases hw' : so'.wr with
      | false => rfl
      | true => have := hw hw'; rw [hso] at this; cases this
theorem To.kill {α : Al} {st : St} {w : World} (h : R α st w) (o : Nat) : To α st w α (st.put o none) w := by
  have key : ∀ o1 so1, (st.put o none).get o1 = some so1 → st.get o1 = some so1 := by
    intro o1 so1 h1
    by_cases e : o1 = o
    · subst e
      have hlt := St.get_lt h1
      rw [St.length_put] at hlt
      rw [St.get_put_eq hlt] at h1; simp at h1
    · rw [St.get_put_ne (fun x => e x.symm)] at h1; exact h1
  refine ⟨⟨fun o1 so1 h1 => h.good o1 so1 (key _ _ h1), fun o1 o2 so1 so2 d1 d2 b hne h1 h2 => h.sep o1 o2 so1 so2 d1 d2 b hne (key _ _ h1) (key _ _ h2), fun o1 so1 d1 b h1 => h.self o1 so1 d1 b (key _ _ h1), ?_, h.cell⟩,
    fun _ _ => rfl, by rw [St.length_put]; exact Nat.le_refl _, ?_, ?_, ?_, fun _ _ _ => rfl, Nat.le_refl _, .refl, rfl, rfl⟩
  · intro x hx; rw [St.length_put] at hx; exact h.none x hx
  · rintro o1 so1 d1 b h1 h2 _ h3
    exact .inr ⟨St.get_lt (key _ _ h1), so1, key _ _ h1, h3⟩
  · rintro o1 so1 d1 b h1 h2 _ h3
    exact .inr ⟨o1, so1, d1, key _ _ h1, h2, h3⟩
  · rintro b _ ⟨o1, so1, d1, h1, h2⟩
    exact ⟨o1, so1, d1, key _ _ h1, h2⟩
theorem To.regrow {α : Al} {st : St} {w w' : World} (h : R α st w) {o : Nat} {so so' : SO} {d e : Den} (ho : st.get o = some so) (hd : α o = some d)
    (hw : so.wr = true) (hcell : Ev.isCell e.val = true) (hs : w'.heap.size = w.heap.size) (hb : ∀ b, ¬ so.lies w d b → w'.heap[b]? = w.heap[b]?)
    (ht : TapeOk w w') (hos : w'.os = w.os) (hp : w'.output = w.output) (hg : Good (α.add st.length e) w' e so') (hf : ∀ b, so'.lies w' e b → so.lies w d b)
    (hi : ∀ b, Ice w' e so' b → so.lies w d b ∨ Is α st w b) (hself : so'.wr = true → ∀ b, so'.lies w' e b → ¬ Ice w' e so' b) :
    To α st w (α.add st.length e) (st.put o none ++ [some so']) w' := by
  have hlt := St.get_lt ho
  have hlen : (st.put o none).length = st.length := St.length_put _ _ _
  have key : ∀ o1 so1, o1 ≠ st.length → (st.put o none ++ [some so']).get o1 = some so1 → o1 ≠ o ∧ st.get o1 = some so1 := by
    intro o1 so1 hne h1
    rcases St.get_append h1 with h1' | ⟨e1, _⟩
    · by_cases e1 : o1 = o
      · subst e1
        rw [St.get_put_eq hlt] at h1'; simp at h1'
      · rw [St.get_put_ne (fun x => e1 x.symm)] at h1'; exact ⟨e1, h1'⟩
    · rw [hlen] at e1; exact absurd e1 hne
  refine To.one h (n := st.length) (fun b => so.lies w d b) (.inr ⟨rfl, rfl⟩) hcell (by rw [← hlen]; exact St.get_append_eq _ _) (fun o1 so1 hne h1 => (key o1 so1 hne h1).2) (by simp [hlen])
    ⟨by simp [hlen], fun e => by omega, by simp [hlen]⟩ (fun b hb1 => ⟨o, so, d, ho, hd, hw, hb1⟩) ?_ (by omega) (fun b _ hn => hb b hn) ht hos hp hg (fun b hb1 => .inr (.inl (hf b hb1))) (fun b hb1 => .inr (hi b hb1)) hself
  intro o1 so1 d1 b hne hx h1 e1 hb1 hf1
  exact h.sep o o1 so so1 d d1 b (fun e => (key o1 so1 hne hx).1 e.symm) ho h1 hd e1 hw hb1 hf1
end Go.Ev

/- THE ENGINE, part 4: the operations one by one: numbers, loads, stores, new variables. -/
namespace Go.Ev
open Go
theorem need_iff {b : Bool} {p : Prop} : need b p ↔ b = true ∧ p := by cases b <;> simp [need]
theorem branch_or {b : Bool} {p q : Prop} (h : branch b p q) : (b = true ∧ p) ∨ (b = false ∧ q) := by cases b <;> simp_all [branch]
theorem opt_iff {α : Type} {x : Option α} {k : α → Prop} : opt x k ↔ ∃ a, x = some a ∧ k a := by cases x <;> simp [opt]
theorem pureSem_run {α : Type} {P : Program} {s : Sem α} : ∀ {a : α}, pureSem P s = some a → ∀ w, s.run P w = .ok a w := by
  induction s with
  | pure a => intro b h w; simp [pureSem] at h; subst h; rfl
  | program k ih => intro b h w; simp only [pureSem] at h; exact ih P h w
  | mark m k ih => intro b h w; simp only [pureSem] at h; exact ih h w
  | _ => intro b h; simp [pureSem] at h
def Got (P : Program) (α : Al) (st : St) (w : World) (s : Sem Value) (k : SV → St → Prop) : Prop :=
  ∃ v w' α' sv st', s.run P w = .ok v w' ∧ sv.rep α' v ∧ k sv st' ∧ To α st w α' st' w'
theorem Got.pure {P : Program} {α : Al} {st : St} {w : World} {s : Sem Value} {k : SV → St → Prop} {sv : SV} {v : Value} (hR : R α st w) (h : s.run P w = .ok v w)
    (hr : sv.rep α v) (hk : k sv st) : Got P α st w s k := ⟨v, w, α, sv, st, h, hr, hk, To.refl hR⟩
variable {P : Program} {α : Al} {st : St} {w : World}
theorem run_under {t : TypeId} {d : TypeDesc} (h : P.underlying t = some d) (w : World) : (underlying t).run P w = .ok d w := run_underlying h w
theorem run_size {t : TypeId} {s : Nat} (h : tSize P t = some s) (w : World) : (sizeOf t).run P w = .ok s w := by
  unfold tSize at h
  cases hi : P.info? t with
  | none => simp [hi] at h
  | some i => simp [hi] at h; simp [sizeOf, typeInfo, hi, h]
theorem run_zero {t : TypeId} {z : Value} (h : tZero P t = some z) (w : World) : (zeroValue t).run P w = .ok z w := by
  unfold tZero at h
  cases hi : P.info? t with
  | none => simp [hi] at h
  | some i => simp [hi] at h; simp [zeroValue, typeInfo, hi, h]
theorem run_isAgg' {t : TypeId} {b : Bool} (h : tIsAgg P t = some b) (w : World) : (isAgg t).run P w = .ok b w := by
  unfold tIsAgg at h
  cases hi : P.underlying t with
  | none => simp [hi] at h
  | some d =>
    have hu := run_under hi
    cases d <;> simp [hi] at h <;> subst h <;> simp [isAgg, hu]
theorem addr_add (b o i : Nat) : (⟨b, o, none⟩ : Addr).add i = ⟨b, o + i, none⟩ := by unfold Addr.add; split <;> simp_all
def CellG (α : Al) (st : St) (w : World) (c : SC) (v : Value) : Prop := CellOk w α c v ∧ ∀ k xs b, c = .dat k xs → DatBlk xs v b → Is α st w b
theorem CellG.of {c : SC} {v : Value} (h : c.val? α = some v) : CellG α st w c v := ⟨CellOk.of h, fun k xs b e _ => by subst e; simp [SC.val?] at h⟩
def RepsG (α : Al) (st : St) (w : World) : List SC → List Value → Prop
  | [], [] => True
  | c :: l, v :: vs => CellG α st w c v ∧ RepsG α st w l vs
  | _, _ => False
theorem Reps.toG : ∀ {l : List SC} {vs : List Value}, Reps α l vs → RepsG α st w l vs
  | [], [], _ => trivial
  | _ :: _, _ :: _, h => ⟨CellG.of h.1, Reps.toG h.2⟩
  | [], _ :: _, e => e.elim
  | _ :: _, [], e => e.elim
theorem RepsG.length : ∀ {l : List SC} {vs : List Value}, RepsG α st w l vs → vs.length = l.length
  | [], [], _ => rfl
  | _ :: _, _ :: _, e => by simp [RepsG.length e.2]
  | [], _ :: _, e => e.elim
  | _ :: _, [], e => e.elim
theorem RepsG.get : ∀ {l : List SC} {vs : List Value}, RepsG α st w l vs → ∀ {i : Nat} {c : SC}, l[i]? = some c → ∃ v, vs[i]? = some v ∧ CellG α st w c v
  | [], [], _, _, _, h => by simp at h
  | c :: l, v :: vs, e, 0, _, h => by simp at h; subst h; exact ⟨v, rfl, e.1⟩
  | c :: l, v :: vs, e, i + 1, _, h => by simp at h; simpa using RepsG.get e.2 h
  | [], _ :: _, e, _, _, _ => e.elim
  | _ :: _, [], e, _, _, _ => e.elim
theorem RepsG.mk : ∀ {l : List SC} {vs : List Value}, vs.length = l.length → (∀ (i : Nat) (c : SC), l[i]? = some c → ∃ v, vs[i]? = some v ∧ CellG α st w c v) → RepsG α st w l vs
  | [], [], _, _ => trivial
  | c :: l, v :: vs, hl, h => by
    refine ⟨?_, RepsG.mk (by simpa using hl) fun i c hc => ?_⟩
    · obtain ⟨v', h1, h2⟩ := h 0 c rfl
      simp at h1; subst h1; exact h2
    · simpa using h (i + 1) c (by simpa using hc)
  | [], _ :: _, h, _ => by simp at h
  | _ :: _, [], h, _ => by simp at h
theorem RepsG.append {l l' : List SC} {vs vs' : List Value} (h : RepsG α st w l vs) (h' : RepsG α st w l' vs') : RepsG α st w (l ++ l') (vs ++ vs') := by
  induction l generalizing vs with
  | nil => cases vs with | nil => simpa using h' | cons _ _ => exact h.elim
  | cons c l ih => cases vs with
    | nil => exact h.elim
    | cons v vs => exact ⟨h.1, ih h.2⟩
theorem RepsG.take {l : List SC} {vs : List Value} (h : RepsG α st w l vs) (n : Nat) : RepsG α st w (l.take n) (vs.take n) := by
  induction l generalizing vs n with
  | nil => cases vs with | nil => simp [RepsG] | cons _ _ => exact h.elim
  | cons c l ih => cases vs with
    | nil => exact h.elim
    | cons v vs => cases n with | zero => simp [RepsG] | succ n => exact ⟨h.1, ih h.2 n⟩
theorem RepsG.drop {l : List SC} {vs : List Value} (h : RepsG α st w l vs) (n : Nat) : RepsG α st w (l.drop n) (vs.drop n) := by
  induction l generalizing vs n with
  | nil => cases vs with | nil => simp [RepsG] | cons _ _ => exact h.elim
  | cons c l ih => cases vs with
    | nil => exact h.elim
    | cons v vs => cases n with | zero => simpa using ⟨h.1, h.2⟩ | succ n => simpa using ih h.2 n
theorem Good.rowsCell {d : Den} {so : SO} (hg : Good α w d so) {m : Nat} {ct : Ct} (hr : so.rows = some (m, ct)) : d.m = m ∧ 0 < m ∧ ∀ i, i < ct.len →
    (ct.get i).length = m ∧ ∀ j c, (ct.get i)[j]? = some c → ∃ v, CellOk w α c v ∧ w.cell? ⟨d.blk, d.off + i * m + j, none⟩ = some v ∧ Ev.isCell v = true := by
  cases so <;> simp only [SO.rows, Option.some.injEq, Prod.mk.injEq, reduceCtorEq] at hr
  case mem wb k T m' ct' =>
    obtain ⟨rfl, rfl⟩ := hr
    obtain ⟨h1, h2, h4⟩ := hg
    refine ⟨h1, h2, fun i hi => ?_⟩
    cases k with
    | ext => exact h4.2 i hi
    | whole =>
      obtain ⟨cs, fz, h5, h6, h7, h8, h9, h10⟩ := h4
      refine ⟨(h10 i hi).1, fun j c hj => ?_⟩
      obtain ⟨v, x1, x2, x3⟩ := (h10 i hi).2 j c hj
      exact ⟨v, x1, by rw [cell_of_cells h5]; exact x2, x3⟩
    | row =>
      obtain ⟨cs, fz, h5, h6, h7, h8, h9, h10⟩ := h4
      refine ⟨(h10 i hi).1, fun j c hj => ?_⟩
      obtain ⟨v, x1, x2, x3⟩ := (h10 i hi).2 j c hj
      exact ⟨v, x1, by rw [cell_of_cells h5]; exact x2, x3⟩
  case own wb k T m' ct' =>
    obtain ⟨rfl, rfl⟩ := hr
    obtain ⟨h1, h2, h3⟩ := hg
    refine ⟨h1, h2, fun i hi => ?_⟩
    rcases h3 with ⟨_, h3, _⟩ | ⟨_, _, _, h4⟩
    · omega
    · cases k with
      | ext => exact h4.2 i hi
      | whole =>
        obtain ⟨cs, fz, h5, h6, h7, h10⟩ := h4
        refine ⟨(h10 i hi).1, fun j c hj => ?_⟩
        obtain ⟨v, x1, x2, x3⟩ := (h10 i hi).2 j c hj
        exact ⟨v, x1, by rw [cell_of_cells h5]; exact x2, x3⟩
      | row =>
        obtain ⟨cs, fz, h5, h6, h7, h10⟩ := h4
        refine ⟨(h10 i hi).1, fun j c hj => ?_⟩
        obtain ⟨v, x1, x2, x3⟩ := (h10 i hi).2 j c hj
        exact ⟨v, x1, by rw [cell_of_cells h5]; exact x2, x3⟩
theorem Good.nest {d : Den} {so : SO} (hg : Good α w d so) {m : Nat} {ct : Ct} (hr : so.rows = some (m, ct)) {i : Nat} (hi : i < ct.len) {b : Nat} (h : Nest w d m ct b) : Ice w d so b := by
  cases so <;> simp only [SO.rows, Option.some.injEq, Prod.mk.injEq, reduceCtorEq] at hr
  case mem wb k T m' ct' =>
    obtain ⟨rfl, rfl⟩ := hr
    cases k <;> first | exact .inr h | exact h
  case own wb k T m' ct' =>
    obtain ⟨rfl, rfl⟩ := hr
    obtain ⟨h1, h2, h3⟩ := hg
    rcases h3 with ⟨_, h3, _⟩ | ⟨hl, _⟩
    · omega
    · cases k <;> first | exact ⟨hl, .inr h⟩ | exact ⟨hl, h⟩
theorem R.rowsG (hR : R α st w) {o m : Nat} {ct : Ct} (hr : st.rows o = some (m, ct)) : ∃ so d, st.get o = some so ∧ so.rows = some (m, ct) ∧ α o = some d ∧ Good α w d so ∧ d.m = m ∧ 0 < m ∧ ∀ i, i < ct.len →
    (ct.get i).length = m ∧ ∀ j c, (ct.get i)[j]? = some c → ∃ v, CellG α st w c v ∧ w.cell? ⟨d.blk, d.off + i * m + j, Option.none⟩ = some v ∧ Ev.isCell v = true := by
  unfold St.rows at hr
  split at hr
  · rename_i so hst
    obtain ⟨d, hd, hg⟩ := hR.good o _ hst
    obtain ⟨h1, h2, h3⟩ := hg.rowsCell hr
    refine ⟨so, d, hst, hr, hd, hg, h1, h2, fun i hi => ⟨(h3 i hi).1, fun j c hj => ?_⟩⟩
    obtain ⟨v, x1, x2, x3⟩ := (h3 i hi).2 j c hj
    refine ⟨v, ⟨x1, fun k xs b e hb => ?_⟩, x2, x3⟩
    subst e
    exact ⟨o, so, d, hst, hd, hg.nest hr hi ⟨i, j, k, xs, v, hi, hj, x2, hb⟩⟩
  · simp at hr
def Held (α : Al) (st : St) (w : World) (b o : Nat) (l : List SC) : Prop := ∃ vs, RepsG α st w l vs ∧ ∀ j v, vs[j]? = some v → w.cell? ⟨b, o + j, none⟩ = some v
theorem Held.of_cells {b o : Nat} {l : List SC} (h : ∀ j c, l[j]? = some c → ∃ v, CellG α st w c v ∧ w.cell? ⟨b, o + j, none⟩ = some v) : Held α st w b o l := by
  induction l generalizing o with
  | nil => exact ⟨[], trivial, by simp⟩
  | cons c l ih =>
    obtain ⟨v, h1, h2⟩ := h 0 c rfl
    obtain ⟨vs, r, hvs⟩ := ih (o := o + 1) fun j c hj => by
      obtain ⟨v, h1, h2⟩ := h (j + 1) c (by simpa using hj)
      exact ⟨v, h1, by rw [show o + 1 + j = o + (j + 1) from by omega]; exact h2⟩
    refine ⟨v :: vs, ⟨h1, r⟩, fun j u hj => ?_⟩
    cases j with
    | zero => simp at hj; subst hj; exact h2
    | succ j => simp at hj; rw [show o + (j + 1) = o + 1 + j from by omega]; exact hvs j u hj
theorem Held.append {b o : Nat} {l l' : List SC} (h : Held α st w b o l) (h' : Held α st w b (o + l.length) l') : Held α st w b o (l ++ l') := by
  obtain ⟨vs, r, hv⟩ := h
  obtain ⟨vs', r', hv'⟩ := h'
  refine ⟨vs ++ vs', r.append r', fun j v hj => ?_⟩
  by_cases hl : j < vs.length
  · rw [List.getElem?_append_left hl] at hj; exact hv j v hj
  · rw [List.getElem?_append_right (by omega)] at hj
    have := hv' (j - vs.length) v hj
    rw [← r.length] at this
    rw [show o + vs.length + (j - vs.length) = o + j from by omega] at this
    exact this
theorem Held.sub {b o : Nat} {l : List SC} (h : Held α st w b o l) (i n : Nat) : Held α st w b (o + i) ((l.drop i).take n) := by
  obtain ⟨vs, r, hv⟩ := h
  refine ⟨(vs.drop i).take n, (r.drop i).take n, fun j v hj => ?_⟩
  rw [List.getElem?_take] at hj
  split at hj
  · rw [List.getElem?_drop] at hj
    rw [show o + i + j = o + (i + j) from by omega]; exact hv _ v hj
  · simp at hj
def CellsAt (α : Al) (st : St) (w : World) (d : Den) (m : Nat) (ct : Ct) : Prop := ∀ i, i < ct.len →
    (ct.get i).length = m ∧ ∀ j c, (ct.get i)[j]? = some c → ∃ v, CellG α st w c v ∧ w.cell? ⟨d.blk, d.off + i * m + j, none⟩ = some v ∧ Ev.isCell v = true
theorem CellsAt.held {d : Den} {m : Nat} {ct : Ct} (hg : CellsAt α st w d m ct) {i : Nat} (hi : i < ct.len) :
    Held α st w d.blk (d.off + i * m) (ct.get i) := Held.of_cells fun j c hj => let ⟨v, h1, h2, _⟩ := (hg i hi).2 j c hj; ⟨v, h1, h2⟩
theorem CellsAt.gather {d : Den} {m : Nat} {ct : Ct} (hg : CellsAt α st w d m ct) : ∀ (n i : Nat), i + n ≤ ct.len →
    Held α st w d.blk (d.off + i * m) (gather ct i n) ∧ (Ev.gather ct i n).length = n * m
  | 0, i, _ => ⟨⟨[], trivial, by simp⟩, by simp [Ev.gather]⟩
  | n + 1, i, h => by
    obtain ⟨h1, h2⟩ := CellsAt.gather hg n (i + 1) (by omega)
    have hl := (hg i (by omega)).1
    refine ⟨Held.append (hg.held (by omega)) ?_, by simp only [Ev.gather, List.length_append, hl, h2, Nat.succ_mul]; omega⟩
    rw [hl, show d.off + i * m + m = d.off + (i + 1) * m from by rw [Nat.succ_mul]; omega]
    exact h1
theorem run_loadHeld {b o : Nat} {l : List SC} (h : Held α st w b o l) : ∃ vs, RepsG α st w l vs ∧ (loadCells ⟨b, o, none⟩ l.length).run P w = .ok vs.toArray w := by
  obtain ⟨vs, r, hv⟩ := h
  refine ⟨vs, r, ?_⟩
  rw [← r.length]
  exact run_loadCells_list w _ vs fun j v hj => by rw [addr_add]; exact hv j v hj
def SA.repG (α : Al) (st : St) (w : World) : SA → Value → Prop
  | .one c, v => CellG α st w c v
  | .agg l, v => ∃ vs, RepsG α st w l vs ∧ v = .agg vs.toArray
theorem readAt_rep {T : TypeId} {e : List SC} {j : Nat} {a : SA} {b o : Nat} (h : Held α st w b o e) (hr : readAt P T e j = some a) :
    ∃ v, a.repG α st w v ∧ (loadVar T ⟨b, o + j, none⟩).run P w = .ok v w := by
  unfold readAt at hr
  cases hA : tIsAgg P T with
  | none => simp [hA] at hr
  | some g =>
    have hA' := run_isAgg' hA w
    cases g with
    | true =>
      cases hs : tSize P T with
      | none => simp [hA, hs] at hr
      | some s =>
        simp only [hA, hs, lenL_eq, takeL_eq, dropL_eq] at hr
        split at hr
        · rename_i hle
          cases hr
          obtain ⟨vs, r, hl⟩ := run_loadHeld (P := P) (h.sub j s)
          have hlen : ((e.drop j).take s).length = s := by simp; omega
          rw [hlen] at hl
          exact ⟨_, ⟨vs, r, rfl⟩, by simp [loadVar, hA', run_size hs, hl]⟩
        · simp at hr
    | false =>
      simp only [hA, lenL_eq, getL_eq] at hr
      split at hr
      · rename_i hlt
        cases hr
        obtain ⟨vs, r, hv⟩ := h
        obtain ⟨v, h1, h2⟩ := r.get (i := j) (c := e[j]) (by simp [hlt])
        refine ⟨v, by simpa [SA.repG, hlt] using h2, ?_⟩
        simp [loadVar, hA', hv j v h1]
      · simp at hr
theorem ghost_to (hR : R α st w) {k : IntKind} {xs : List Int} {v : Value} (h : DatOk w k xs v) (hb : ∀ b, DatBlk xs v b → Is α st w b) :
    ∃ d, d.val = v ∧ To α st w (α.add st.length d) (st ++ [some (.own false .ext 0 1 (.ints k xs))]) w := by
  rcases h with ⟨rfl, a, c, rfl⟩ | ⟨h1, b, o, c, rfl, h2, h3, h4⟩
  · exact ⟨⟨0, 0, 1, 0, .slice a 0 c, false⟩, rfl, To.ghost hR (fun _ h => h.elim) (fun b hb => by cases hb.1) rfl ⟨rfl, Nat.one_pos, .inl ⟨rfl, rfl, a, c, rfl, fun e => by cases e⟩⟩⟩
  · refine ⟨⟨b, o, 1, c, .slice (some ⟨b, o, none⟩) xs.length c, true⟩, rfl, To.ghost hR (fun _ h => h.elim) (fun b' hb' => ?_) rfl
      ⟨rfl, Nat.one_pos, .inr ⟨rfl, rfl, h2, h3, fun i hi => ⟨rfl, fun j x hj => ?_⟩⟩⟩⟩
    · rcases hb'.2 with e | ⟨i, j, kk, ys, v', _, g, _⟩
      · subst e; exact hb _ ⟨h1, o, _, _, rfl⟩
      · have := List.mem_of_getElem? g
        simp only [Ct.get, List.mem_singleton] at this
        cases this
    · simp only [Ct.len] at hi
      cases j with
      | succ j => simp [Ct.get] at hj
      | zero =>
        simp only [Ct.get, List.getElem?_cons_zero, Option.some.injEq] at hj
        subst hj
        refine ⟨_, CellOk.of rfl, ?_, rfl⟩
        simp only [Nat.mul_one, Nat.add_zero, List.getD_eq_getElem?_getD]
        exact h4 i hi
theorem CellG.mono {β : Al} {st' : St} {w' : World} (hR : R α st w) (hto : To α st w β st' w') (hsame : w' = w) {c : SC} {v : Value} (h : CellG α st w c v) (hk : ∀ b, Is α st w b → Is β st' w' b) : CellG β st' w' c v := by
  subst hsame
  exact ⟨h.1.mono (hto.le hR), fun k xs b e hb => hk b (h.2 k xs b e hb)⟩
theorem Is.snoc {x : Option SO} {d : Den} (hR : R α st w) {b : Nat} (h : Is α st w b) : Is (α.add st.length d) (st ++ [x]) w b := by
  obtain ⟨o, so, e, h1, h2, h3⟩ := h
  have := St.get_lt h1
  exact ⟨o, so, e, by rw [St.get_append_lt this]; exact h1, by rw [Al.add_other (by omega)]; exact h2, h3⟩
theorem RepsG.snoc {x : Option SO} {d : Den} (hR : R α st w) : ∀ {l : List SC} {vs : List Value}, RepsG α st w l vs → RepsG (α.add st.length d) (st ++ [x]) w l vs
  | [], [], _ => trivial
  | c :: l, v :: vs, h => ⟨⟨h.1.1.mono (Al.le_add (hR.none _ (Nat.le_refl _))), fun k xs b e hb => (h.1.2 k xs b e hb).snoc hR⟩, RepsG.snoc hR h.2⟩
  | [], _ :: _, e => e.elim
  | _ :: _, [], e => e.elim
theorem ghosts_sound : ∀ {l : List SC} {vs : List Value} {α : Al} {st : St}, R α st w → RepsG α st w l vs → ∃ α', To α st w α' (ghosts l st).2 w ∧ Reps α' (ghosts l st).1 vs
  | [], [], α, st, hR, _ => ⟨α, To.refl hR, trivial⟩
  | c :: l, v :: vs, α, st, hR, h => by
    by_cases hd : ∃ k xs, c = .dat k xs
    · obtain ⟨k, xs, rfl⟩ := hd
      obtain ⟨d, rfl, hto⟩ := ghost_to hR h.1.1 (fun b hb => h.1.2 k xs b rfl hb)
      obtain ⟨α', h1, h2⟩ := ghosts_sound hto.rep (h.2.snoc hR)
      simp only [ghosts, lenL_eq]
      refine ⟨α', hto.trans h1, ?_, h2⟩
      have : (α.add st.length d).le α' := h1.le hto.rep
      simp only [SC.val?, this _ _ Al.add_same]
    · have hc : ∀ k xs, c ≠ .dat k xs := fun k xs e => hd ⟨k, xs, e⟩
      obtain ⟨α', h1, h2⟩ := ghosts_sound hR h.2
      have e1 : ghosts (c :: l) st = (c :: (ghosts l st).1, (ghosts l st).2) := by cases c <;> first | rfl | exact absurd rfl (hc _ _)
      rw [e1]
      exact ⟨α', h1, SC.val?_mono (h1.le hR) (h.1.1.val hc), h2⟩
  | [], _ :: _, _, _, _, e => e.elim
  | _ :: _, [], _, _, _, e => e.elim
theorem ghostA_sound {a : SA} {v : Value} {k : SV → St → Prop} (hR : R α st w) (ha : a.repG α st w v) (h : ghostA a st k) : ∃ sv α' st', To α st w α' st' w ∧ SV.rep α' sv v ∧ k sv st' := by
  unfold ghostA at h
  split at h
  · rename_i kk xs
    obtain ⟨d, rfl, hto⟩ := ghost_to hR (ha : CellG α st w _ _).1 (fun b hb => ha.2 kk xs b rfl hb)
    rw [lenL_eq] at h
    exact ⟨_, _, _, hto, by simp only [SV.rep, SA.rep, SC.val?, Al.add_same], h⟩
  · rename_i c hc
    exact ⟨.sa (.one c), α, st, To.refl hR, (ha : CellG α st w _ _).1.val hc, h⟩
  · rename_i l
    obtain ⟨vs, r, rfl⟩ := ha
    obtain ⟨α', h1, h2⟩ := ghosts_sound hR r
    exact ⟨.sa (.agg _), α', _, h1, ⟨vs, h2, rfl⟩, h⟩
theorem asRow_spec {T : TypeId} {m n : Nat} (h : asRow P T m = some n) : tIsAgg P T = some true ∧ tSize P T = some (n * m) := by
  unfold asRow at h
  split at h
  · rename_i n' e hu
    split at h
    · rename_i s z hs hz
      split at h
      · rename_i hsm
        cases h
        exact ⟨by simp [tIsAgg, hu], by rw [hz, hsm.2]⟩
      · simp at h
    · simp at h
  · simp at h
theorem rowK_spec {k : List SC → Prop} : ∀ {vs : List (List SC)} {j : Nat}, rowK vs j k → k (getL [] vs j)
  | [], _, h => h.elim
  | e :: r, j, h => by
    unfold rowK at h
    by_cases hj : j = 0
    · subst hj; simpa [branch] using h
    · obtain ⟨j, rfl⟩ : ∃ i, j = i + 1 := ⟨j - 1, by omega⟩
      have h : rowK r (j + 1 - 1) k := by simpa [branch] using h
      exact rowK_spec (vs := r) (j := j) h
theorem Ct.atK_spec {ct : Ct} {i : Nat} {k : List SC → Prop} (h : ct.atK i k) : k (ct.get i) := by
  cases ct with
  | ext n cs vs =>
    replace h : branch (decide (i < n)) (k (colsAt i cs)) (rowK vs (i - n) k) := h
    simp only [Ct.get]
    by_cases hi : i < n
    · rw [decide_eq_true hi] at h
      have hb : Nat.blt i n = true := by rw [Nat.blt_eq]; exact hi
      rw [hb]; exact h
    · rw [decide_eq_false hi] at h
      have hb : Nat.blt i n = false := by cases hb : Nat.blt i n with | false => rfl | true => exact absurd (by rw [Nat.blt_eq] at hb; exact hb) hi
      rw [hb]; exact rowK_spec h
  | at1 n vs j e =>
    obtain ⟨h1, h2⟩ := need_iff.1 h
    obtain rfl : i = j := by simpa using h1
    show k (match Nat.beq i i with | true => e | false => _)
    rw [Nat.beq_refl]; exact h2
  | _ => exact h
theorem rowK_iff {k : List SC → Prop} : ∀ {vs : List (List SC)} {j : Nat}, rowK vs j k ↔ j < vs.length ∧ k (getL [] vs j)
  | [], _ => ⟨fun h => h.elim, fun h => by simp at h⟩
  | e :: r, j => by
    unfold rowK
    by_cases hj : j = 0
    · subst hj; simp [branch]
    · obtain ⟨j, rfl⟩ : ∃ i, j = i + 1 := ⟨j - 1, by omega⟩
      have := rowK_iff (k := k) (vs := r) (j := j)
      simpa [branch] using this
def Ct.okAt (ct : Ct) (i : Nat) : Prop := match ct with
  | .ext n _ vs => i < n ∨ i - n < vs.length
  | .at1 _ _ j _ => i = j
  | _ => True
theorem Ct.atK_iff {ct : Ct} {i : Nat} {k : List SC → Prop} : ct.atK i k ↔ ct.okAt i ∧ k (ct.get i) := by
  cases ct with
  | ext n cs vs =>
    show branch (decide (i < n)) (k (colsAt i cs)) (rowK vs (i - n) k) ↔ (i < n ∨ i - n < vs.length) ∧ k (match Nat.blt i n with | true => colsAt i cs | false => getL [] vs (i - n))
    by_cases hi : i < n
    · rw [decide_eq_true hi, show Nat.blt i n = true by rw [Nat.blt_eq]; exact hi]
      exact ⟨fun h => ⟨.inl hi, h⟩, fun h => h.2⟩
    · rw [decide_eq_false hi]
      have hb : Nat.blt i n = false := by
        cases hb : Nat.blt i n with
        | false => rfl
        | true => exact absurd (by rw [Nat.blt_eq] at hb; exact hb) hi
      rw [hb]
      exact ⟨fun h => ⟨.inr (rowK_iff.1 h).1, (rowK_iff.1 h).2⟩, fun h => rowK_iff.2 ⟨h.1.resolve_left hi, h.2⟩⟩
  | at1 n vs j e =>
    show need (decide (i = j)) (k e) ↔ i = j ∧ k (match Nat.beq i j with | true => e | false => [.raw (getL (.bool false) vs i)])
    constructor
    · intro h
      obtain ⟨h1, h2⟩ := need_iff.1 h
      obtain rfl : i = j := by simpa using h1
      exact ⟨rfl, by rw [Nat.beq_refl]; exact h2⟩
    · rintro ⟨rfl, h⟩
      rw [Nat.beq_refl] at h
      exact need_iff.2 ⟨by simp, h⟩
  | _ => exact ⟨fun h => ⟨trivial, h⟩, fun h => h.2⟩
theorem evLoad_sound {T : TypeId} {a : SA} {av : Value} {k : SV → St → Prop} (hR : R α st w) (ha : a.rep α av) (h : evLoad P T st a k) :
    ∃ sv v α' st', (Instr.loadAt T av).run P w = .ok v w ∧ SV.rep α' sv v ∧ k sv st' ∧ To α st w α' st' w := by
  unfold evLoad at h
  split at h
  · rename_i o i j
    split at h
    · rename_i m ct hst
      obtain ⟨so, d, _, _, hd, _, hm, _, hg⟩ := hR.rowsG hst
      have hg : CellsAt α st w d m ct := hg
      simp only [SA.rep, SC.val?, hd, Option.some.injEq] at ha
      subst ha
      split at h
      · rename_i n hrow
        obtain ⟨hb, hk⟩ := need_iff.1 h
        have hb : i + n ≤ ct.len := by simpa using hb
        obtain ⟨h1, h2⟩ := hg.gather n i hb
        obtain ⟨vs, r, hl⟩ := run_loadHeld (P := P) h1
        obtain ⟨hA, hs⟩ := asRow_spec hrow
        rw [h2] at hl
        obtain ⟨sv, α', st', x1, x2, x3⟩ := ghostA_sound (a := .agg (Ev.gather ct i n)) (v := .agg vs.toArray) hR ⟨vs, r, rfl⟩ hk
        exact ⟨sv, _, α', st', by simp [Instr.loadAt, Instr.sureAddr, hm, loadVar, run_isAgg' hA, run_size hs, hl], x2, x3, x1⟩
      · obtain ⟨hb, hk⟩ := need_iff.1 h
        have hb : i < ct.len := by simpa using hb
        obtain ⟨a, hr, hk⟩ := opt_iff.1 (Ct.atK_spec hk)
        obtain ⟨v, hv, hl⟩ := readAt_rep (hg.held hb) hr
        obtain ⟨sv, α', st', x1, x2, x3⟩ := ghostA_sound hR hv hk
        exact ⟨sv, v, α', st', by simp [Instr.loadAt, Instr.sureAddr, hm, hl], x2, x3, x1⟩
    · exact h.elim
  · rename_i o
    split at h
    · rename_i hst hA hs
      obtain ⟨d, hd, a, hval⟩ := hR.good o _ hst
      simp only [SA.rep, SC.val?, hd, Option.some.injEq] at ha
      rw [hval] at ha
      subst ha
      refine ⟨.sa (.agg []), .agg #[], α, st, ?_, ⟨[], trivial, rfl⟩, h, To.refl hR⟩
      simp [Instr.loadAt, Instr.sureAddr, loadVar, run_isAgg' hA, run_size hs, loadCells, loadCellsFrom]
    · exact h.elim
  · exact h.elim
theorem oneCell_of_isCell {v : Value} (h : Ev.isCell v = true) : v.oneCell' = true := by cases v <;> simp_all [Ev.isCell, Value.oneCell']
theorem setRow_other (w : World) (g : Nat) (cs : Array Value) {b : Nat} (h : b ≠ g) : (w.setRow g cs).heap[b]? = w.heap[b]? := by
  unfold World.setRow
  simp only [Array.getElem?_modify]
  rw [if_neg (fun e => h e.symm)]
theorem setRow_size (w : World) (g : Nat) (cs : Array Value) : (w.setRow g cs).heap.size = w.heap.size := by simp [World.setRow]
theorem run_storeCells_fz (g o : Nat) (t : TypeId) (fz : Nat × Nat) : ∀ (vs : List Value) (i : Nat) (cur : Array Value) (w : World), w.heap[g]? = some (.cells cur t fz) →
    fzIn cur.size fz → o + i + vs.length ≤ cur.size → (∀ v ∈ vs, Ev.isCell v = true) →
    (storeCells ⟨g, o, none⟩ vs i).run P w = .ok () (w.setRow g (cur.toList.take (o + i) ++ vs ++ cur.toList.drop (o + i + vs.length)).toArray)
  | [], i, cur, w, hg, _, _, _ => by
    simp only [storeCells, List.append_nil, List.length_nil, Nat.add_zero, List.take_append_drop, Array.toArray_toList]
    rw [setRow_self w g cur t fz hg]
    rfl
  | v :: rest, i, cur, w, hg, hf, hl, h1 => by
    have hi : o + i < cur.size := by simp at hl; omega
    have hcell : w.cell? ⟨g, o + i, none⟩ = some cur[o + i] := by simp [World.cell?, hg, hi]
    have hfro : w.frozen? ⟨g, o + i, none⟩ = false := by
      rcases hf with rfl | rfl <;> simp [World.frozen?, hg]
      omega
    have hst : (store ((⟨g, o, none⟩ : Addr).add i) v).run P w = .ok () (w.setRow g (cur.setIfInBounds (o + i) v)) := by
      rw [addr_add, run_store P w _ v _ (oneCell_of_isCell (h1 v (by simp))), hcell]
      simp [hfro, setCell_eq_setRow w g (o + i) cur t fz v hg]
    have ih := run_storeCells_fz g o t fz rest (i + 1) (cur.setIfInBounds (o + i) v) (w.setRow g (cur.setIfInBounds (o + i) v)) (setRow_heap w g cur _ t _ hg) (by simpa using hf) (by simp at hl ⊢; omega) (fun x hx => h1 x (by simp [hx]))
    simp only [storeCells, Sem.run_bind, hst, Result.andThen_ok, ih, setRow_setRow]
    congr 3
    apply List.ext_getElem?
    intro j
    simp only [Array.toList_setIfInBounds, List.getElem?_append, List.getElem?_take, List.getElem?_drop, List.length_append, List.length_take, List.length_set, List.length_cons, Array.length_toList, List.getElem?_set]
    have e1 : min (o + (i + 1)) cur.size = o + i + 1 := by omega
    have e2 : min (o + i) cur.size = o + i := by omega
    simp only [e1, e2]
    by_cases h3 : j < o + i
    · have x1 : j < o + i + 1 := by omega
      have x2 : j < o + i + 1 + rest.length := by omega
      have x3 : j < o + i + (rest.length + 1) := by omega
      have x4 : ¬ (o + i = j) := by omega
      have x5 : j < o + (i + 1) := by omega
      simp [h3, x1, x2, x3, x4, x5]
    · by_cases h4 : j = o + i
      · subst h4
        have x5 : o + i < o + (i + 1) := by omega
        simp [hi, x5]
        omega
      · have x1 : ¬ j < o + i + 1 := by omega
        by_cases h5 : j < o + i + 1 + rest.length
        · have x3 : j < o + i + (rest.length + 1) := by omega
          simp only [x1, h5, x3, h3, if_true, if_false]
          rw [show j - (o + i) = (j - (o + i + 1)) + 1 from by omega]
          simp
        · have x3 : ¬ j < o + i + (rest.length + 1) := by omega
          simp only [x1, h5, x3, h3, if_false]
          have y : ¬ (o + i = o + (i + 1) + rest.length + (j - (o + i + 1 + rest.length))) := by omega
          simp only [y, if_false]
          congr 1
          omega
theorem row_get (cur : List Value) (o : Nat) (vs : List Value) (h : o + vs.length ≤ cur.length) (j : Nat) :
    (cur.take o ++ vs ++ cur.drop (o + vs.length))[j]? = if o ≤ j ∧ j < o + vs.length then vs[j - o]? else cur[j]? := by
  simp only [List.getElem?_append, List.length_append, List.length_take, List.getElem?_take, List.getElem?_drop]
  have e2 : min o cur.length = o := by omega
  simp only [e2]
  by_cases h1 : j < o
  · have x1 : j < o + vs.length := by omega
    have x2 : ¬ o ≤ j := by omega
    simp [h1, x1, x2]
  · by_cases h2 : j < o + vs.length
    · have x2 : o ≤ j := by omega
      simp [h1, h2, x2]
    · have x2 : o ≤ j := by omega
      simp only [h1, h2, x2, if_false, and_false]
      congr 1
      omega
theorem allCells_spec {l : List SC} (h : allCells l = true) : ∀ c ∈ l, c.isCell = true := by
  induction l with
  | nil => simp
  | cons c l ih =>
    simp only [allCells] at h
    split at h
    · rename_i hc
      intro x hx
      rcases List.mem_cons.1 hx with rfl | hx
      · exact hc
      · exact ih h x hx
    · simp at h
theorem Reps.isCell (href : ∀ o d, α o = some d → Ev.isCell d.val = true) {l : List SC} {vs : List Value} (h : Reps α l vs) (hl : ∀ c ∈ l, c.isCell = true) : ∀ v ∈ vs, Ev.isCell v = true := by
  induction l generalizing vs with
  | nil => cases vs with | nil => simp | cons _ _ => exact h.elim
  | cons c l ih => cases vs with
    | nil => exact h.elim
    | cons v vs =>
      intro x hx
      rcases List.mem_cons.1 hx with rfl | hx
      · exact SC.isCell_val href h.1 (hl c (by simp))
      · exact ih h.2 (fun c hc => hl c (by simp [hc])) x hx
theorem fitL_length {β : Type} {d : β} : ∀ (n : Nat) (xs : List β), (fitL d n xs).length = n
  | 0, _ => rfl
  | n + 1, [] => by simp [fitL, fitL_length n]
  | n + 1, x :: r => by simp [fitL, fitL_length n]
theorem fitL_get {β : Type} {d : β} : ∀ {n : Nat} {xs : List β} {i : Nat}, i < n → (fitL d n xs)[i]?.getD d = xs[i]?.getD d
  | n + 1, [], 0, _ => by simp [fitL]
  | n + 1, [], i + 1, h => by simpa [fitL] using fitL_get (d := d) (n := n) (xs := []) (i := i) (by omega)
  | n + 1, x :: r, 0, _ => by simp [fitL]
  | n + 1, x :: r, i + 1, h => by simpa [fitL] using fitL_get (d := d) (n := n) (xs := r) (i := i) (by omega)
theorem fitL_self {β : Type} {d : β} : ∀ (xs : List β), fitL d xs.length xs = xs
  | [] => rfl
  | x :: r => by simp [fitL, fitL_self r]
theorem fitL_map {β γ : Type} {d : β} (f : γ → β) (xs : List γ) : fitL d xs.length (xs.map f) = xs.map f := by
  have := fitL_self (d := d) (xs.map f)
  simpa using this
theorem Col.set_at {n i : Nat} {c c' : Col} {e : SC} (h : c.set n i e = some c') (hi : i < n) {j : Nat} (hj : j < n) : c'.at j = if j = i then e else c.at j := by
  unfold Col.set at h
  split at h
  · split at h
    · rename_i hk
      subst hk
      cases h
      simp only [Col.at, List.getD_eq_getElem?_getD, List.getElem?_set, fitL_length, hi, if_true]
      by_cases he : j = i
      · subst he; simp
      · rw [if_neg (fun x => he x.symm), if_neg he, fitL_get hj]
    · simp at h
  · cases h
    simp only [Col.at, List.getD_eq_getElem?_getD, List.getElem?_set, fitL_length, hi, if_true]
    by_cases he : j = i
    · subst he; simp
    · rw [if_neg (fun x => he x.symm), if_neg he, fitL_get hj]
  · split at h
    · rename_i hk
      subst hk
      cases h
      simp only [Col.at, List.getD_eq_getElem?_getD, List.getElem?_set, fitL_length, hi, if_true]
      by_cases he : j = i
      · subst he; simp
      · rw [if_neg (fun x => he x.symm), if_neg he, fitL_get hj]
    · simp at h
  · simp at h
theorem Col.push_at {n : Nat} {c c' : Col} {e : SC} (h : c.push n e = some c') {j : Nat} (hj : j < n + 1) : c'.at j = if j < n then c.at j else e := by
  unfold Col.push at h
  split at h
  · split at h
    · rename_i hk
      subst hk
      cases h
      simp only [Col.at, List.getD_eq_getElem?_getD, List.getElem?_append, fitL_length]
      by_cases he : j < n
      · rw [if_pos he, if_pos he, fitL_get he]
      · rw [if_neg he, if_neg he, show j - n = 0 from by omega]; rfl
    · simp at h
  · cases h
    simp only [Col.at, List.getD_eq_getElem?_getD, List.getElem?_append, fitL_length]
    by_cases he : j < n
    · rw [if_pos he, if_pos he, fitL_get he]
    · rw [if_neg he, if_neg he, show j - n = 0 from by omega]; rfl
  · split at h
    · rename_i hk
      subst hk
      cases h
      simp only [Col.at, List.getD_eq_getElem?_getD, List.getElem?_append, fitL_length]
      by_cases he : j < n
      · rw [if_pos he, if_pos he, fitL_get he]
      · rw [if_neg he, if_neg he, show j - n = 0 from by omega]; rfl
    · simp at h
  · simp at h
theorem zipO_same {f : Col → SC → Option Col} {j : Nat} (hf : ∀ c e c', f c e = some c' → c'.at j = c.at j) : ∀ {cs : List Col} {es : List SC} {cs' : List Col}, zipO f cs es = some cs' → colsAt j cs' = colsAt j cs
  | [], [], cs', h => by simp [zipO] at h; subst h; rfl
  | [], _ :: _, cs', h => by simp [zipO] at h
  | _ :: _, [], cs', h => by simp [zipO] at h
  | c :: cs, e :: es, cs', h => by
    simp only [zipO] at h
    split at h
    · rename_i c1 r1 h1 h2; cases h; simp [colsAt, hf _ _ _ h1, zipO_same hf h2]
    · simp at h
theorem zipO_new {f : Col → SC → Option Col} {j : Nat} (hf : ∀ c e c', f c e = some c' → c'.at j = e) : ∀ {cs : List Col} {es : List SC} {cs' : List Col}, zipO f cs es = some cs' → colsAt j cs' = es
  | [], [], cs', h => by simp [zipO] at h; subst h; rfl
  | [], _ :: _, cs', h => by simp [zipO] at h
  | _ :: _, [], cs', h => by simp [zipO] at h
  | c :: cs, e :: es, cs', h => by
    simp only [zipO] at h
    split at h
    · rename_i c1 r1 h1 h2; cases h; simp [colsAt, hf _ _ _ h1, zipO_new hf h2]
    · simp at h
theorem colsSet_at {n i : Nat} (hi : i < n) {cs cs' : List Col} {e : List SC} (h : zipO (Col.set n i) cs e = some cs') {j : Nat} (hj : j < n) : colsAt j cs' = if j = i then e else colsAt j cs := by
  by_cases he : j = i
  · rw [if_pos he]; exact zipO_new (fun c e c' h => by rw [Col.set_at h hi hj, if_pos he]) h
  · rw [if_neg he]; exact zipO_same (fun c e c' h => by rw [Col.set_at h hi hj, if_neg he]) h
theorem colsPush_at {n : Nat} {cs cs' : List Col} {e : List SC} (h : zipO (Col.push n) cs e = some cs') {j : Nat} (hj : j < n + 1) : colsAt j cs' = if j < n then colsAt j cs else e := by
  by_cases he : j < n
  · rw [if_pos he]; exact zipO_same (fun c e c' h => by rw [Col.push_at h hj, if_pos he]) h
  · rw [if_neg he]; exact zipO_new (fun c e c' h => by rw [Col.push_at h hj, if_neg he]) h
theorem Ct.set_len {ct ct' : Ct} {i : Nat} {e : List SC} (h : ct.set i e = some ct') : ct'.len = ct.len := by
  unfold Ct.set at h
  split at h
  · cases h; simp [Ct.len]
  · split at h
    · cases h; simp [Ct.len]
    · simp at h
  · split at h
    · cases h; simp [Ct.len]
    · simp at h
  · simp at h
theorem Ct.set_get {ct ct' : Ct} {i : Nat} {e : List SC} (h : ct.set i e = some ct') (hi : i < ct.len) (i' : Nat) (hi' : i' < ct.len) : ct'.get i' = if i' = i then e else ct.get i' := by
  unfold Ct.set at h
  split at h
  · cases h
    simp only [Ct.get, getL_eq, setL_eq, List.getElem?_set]
    simp only [Ct.len] at hi
    by_cases he : i' = i
    · subst he; simp [hi]
    · have : ¬ i = i' := fun x => he x.symm
      simp [he, this]
  · split at h
    · rename_i hk
      subst hk
      cases h
      simp only [Ct.len] at hi
      simp only [Ct.get, List.getD_eq_getElem?_getD, List.getElem?_set]
      by_cases he : i' = i
      · subst he; simp [hi]
      · have : ¬ i = i' := fun x => he x.symm
        simp [he, this]
    · simp at h
  · split at h
    · rename_i cs' hz
      cases h
      exact colsSet_at hi hz hi'
    · simp at h
  · simp at h
def SO.isOwn : SO → Bool
  | .own .. => true
  | _ => false
theorem Good.live {d : Den} {so : SO} (hg : Good α w d so) {m : Nat} {ct : Ct} (hr : so.rows = some (m, ct)) (hpos : 0 < ct.len) : so.isOwn = true → d.live = true := by
  cases so <;> simp only [SO.rows, Option.some.injEq, Prod.mk.injEq, reduceCtorEq] at hr
  · intro h; cases h
  · obtain ⟨rfl, rfl⟩ := hr
    intro _
    obtain ⟨_, _, ⟨_, h0, _⟩ | ⟨hl, _⟩⟩ := hg
    · omega
    · exact hl
theorem R.toRow (hR : R α st w) {o : Nat} {so : SO} {d : Den} (ho : st.get o = some so) (hd : α o = some d) (hcan : so.can = true) {m : Nat} {ct : Ct} (hr : so.rows = some (m, ct)) (hpos : so.isOwn = true → d.live = true) :
    ∃ (T : TypeId) (cs : Array Value) (fz : Nat × Nat), T = so.ty ∧ (∀ b, so.lies w d b ↔ b = d.blk) ∧ so.wr = true ∧ w.heap[d.blk]? = some (.cells cs T fz) ∧ fzOk so.isOwn cs fz ∧ d.off + d.cap * m ≤ cs.size ∧ ct.len ≤ d.cap ∧ d.m = m ∧ 0 < m ∧ Wr α st w d.blk ∧
      (∀ i, i < ct.len → (ct.get i).length = m ∧ ∀ j c, (ct.get i)[j]? = some c → ∃ v, CellG α st w c v ∧ cs[d.off + i * m + j]? = some v ∧ Ev.isCell v = true) ∧
      ∀ (w' : World) (ct' : Ct) (cs' : Array Value), w'.heap[d.blk]? = some (.cells cs' T fz) → cs'.size = cs.size → (∀ b, b ≠ d.blk → w'.heap[b]? = w.heap[b]?) → w'.heap.size = w.heap.size →
        TapeOk w w' → w'.os = w.os → w'.output = w.output → ct'.len = ct.len → (∀ v ∈ cs'.toList, Ev.isCell v = true) →
        (∀ i, i < ct.len → (ct'.get i).length = m ∧ ∀ j c, (ct'.get i)[j]? = some c → ∃ v, CellG α st w c v ∧ cs'[d.off + i * m + j]? = some v ∧ Ev.isCell v = true) →
        To α st w α (st.put o (some (so.setCt ct'))) w' := by
  obtain ⟨d', hd', hg⟩ := hR.good o _ ho
  rw [hd] at hd'; cases hd'
  have hrows : st.rows o = some (m, ct) := by simp only [St.rows, ho]; exact hr
  obtain ⟨so2, d2, a1, a2, a3, a4, hm, hmp, hcell⟩ := hR.rowsG hrows
  rw [ho] at a1; cases a1
  rw [hd] at a3; cases a3
  have hwr : so.wr = true := by
    cases so <;> simp only [SO.rows, reduceCtorEq] at hr
    · rename_i wb k T m' ct'; cases wb <;> cases k <;> first | rfl | simp [SO.can] at hcan
    · rename_i wb k T m' ct'; cases wb <;> cases k <;> first | rfl | simp [SO.can] at hcan
  have hlies : ∀ b, so.lies w d b ↔ b = d.blk := by
    intro b
    cases so <;> simp only [SO.rows, Option.some.injEq, Prod.mk.injEq, reduceCtorEq] at hr
    · rename_i wb k T m' ct'; cases wb <;> cases k <;> first | exact Iff.rfl | simp [SO.can] at hcan
    · rename_i wb k T m' ct'
      obtain ⟨rfl, rfl⟩ := hr
      cases wb <;> cases k <;> first | (simp [SO.can] at hcan; done) | skip
      exact ⟨fun h => h.2, fun h => ⟨hpos rfl, h⟩⟩
  have hWr : Wr α st w d.blk := ⟨o, so, d, ho, hd, hwr, (hlies _).2 rfl⟩
  have carry : ∀ (w' : World) (c : SC) (v : Value), (∀ b, b ≠ d.blk → w'.heap[b]? = w.heap[b]?) → w'.heap.size = w.heap.size → CellG α st w c v → CellOk w' α c v := by
    intro w' c v hb hs h
    cases c with
    | dat k xs =>
      refine DatOk.congr h.1 (fun b hb1 => hb b fun e => ?_) (by omega)
      subst e
      exact hR.apart hWr (h.2 k xs _ rfl hb1)
    | _ => exact h.1
  have fin : ∀ (w' : World) (ct' : Ct) (cs' : Array Value) (T : TypeId) (fz : Nat × Nat), w'.heap[d.blk]? = some (.cells cs' T fz) → (∀ b, b ≠ d.blk → w'.heap[b]? = w.heap[b]?) → w'.heap.size = w.heap.size →
        TapeOk w w' → w'.os = w.os → w'.output = w.output → ct'.len = ct.len →
        (∀ i, i < ct.len → (ct'.get i).length = m ∧ ∀ j c, (ct'.get i)[j]? = some c → ∃ v, CellG α st w c v ∧ cs'[d.off + i * m + j]? = some v ∧ Ev.isCell v = true) →
        Good α w' d (so.setCt ct') → To α st w α (st.put o (some (so.setCt ct'))) w' := by
    intro w' ct' cs' T fz hh hb hs ht hos hp hlen hc hgood
    have hl' : ∀ b, (so.setCt ct').lies w' d b → so.lies w d b := by
      cases so <;> simp only [SO.rows, reduceCtorEq] at hr
      · rename_i wb k T m' ct'; cases k <;> exact fun _ h => h
      · rename_i wb k T m' ct'; cases k <;> exact fun _ h => h
    have hIce : ∀ b, Ice w' d (so.setCt ct') b → Is α st w b := by
      intro b hib
      have hn : Nest w' d m ct' b := by
        cases so <;> simp only [SO.rows, Option.some.injEq, Prod.mk.injEq, reduceCtorEq] at hr
        · rename_i wb k T m' ct'; obtain ⟨rfl, rfl⟩ := hr; cases wb <;> cases k <;> first | (simp [SO.can] at hcan; done) | exact hib
        · rename_i wb k T m' ct'; obtain ⟨rfl, rfl⟩ := hr; cases wb <;> cases k <;> first | (simp [SO.can] at hcan; done) | exact hib.2
      obtain ⟨i, j, k, xs, v, n1, n2, n3, n4⟩ := hn
      obtain ⟨v', x1, x2, _⟩ := (hc i (by omega)).2 j _ n2
      rw [cell_of_cells hh, x2] at n3; cases n3
      exact x1.2 k xs b rfl n4
    exact To.upd hR ho hd hwr hs (fun b hn => hb b fun e => hn ((hlies b).2 e)) ht hos hp hgood hl' (fun b hib => .inr (hIce b hib))
      fun _ b hbl hib => hR.apart ⟨o, so, d, ho, hd, hwr, hl' b hbl⟩ (hIce b hib)
  cases so <;> simp only [SO.rows, Option.some.injEq, Prod.mk.injEq, reduceCtorEq] at hr
  · rename_i wb k T m' ct'
    obtain ⟨rfl, rfl⟩ := hr
    obtain ⟨h1, h2, h4⟩ := hg
    have h4' : ∃ (cs : Array Value) (fz : Nat × Nat), w.heap[d.blk]? = some (.cells cs T fz) ∧ fzOk false cs fz ∧ d.off + d.cap * m' = cs.size ∧ ct'.len ≤ d.cap ∧ (k = .whole → ct'.len = d.cap) ∧
        ct'.Cells w α m' fun i j => cs[d.off + i * m' + j]? := by
      cases wb <;> cases k <;> first | (simp [SO.can] at hcan; done) | exact h4
    obtain ⟨cs, fz, h5, h6, h7, h8, h9, h10⟩ := h4'
    refine ⟨T, cs, fz, rfl, hlies, hwr, h5, h6, by omega, h8, h1, h2, hWr, fun i hi => ⟨(hcell i hi).1, fun j c hj => ?_⟩, ?_⟩
    · obtain ⟨v, x1, x2, x3⟩ := (hcell i hi).2 j c hj
      exact ⟨v, x1, by rw [cell_of_cells h5] at x2; exact x2, x3⟩
    · intro w' ct2 cs' hh hsz hb hs ht hos hp hlen hcl hc
      refine fin w' ct2 cs' T fz hh hb hs ht hos hp hlen hc ⟨h1, h2, ?_⟩
      have hfin : ∃ (cs : Array Value) (fz : Nat × Nat), w'.heap[d.blk]? = some (.cells cs T fz) ∧ fzOk false cs fz ∧ d.off + d.cap * m' = cs.size ∧ ct2.len ≤ d.cap ∧ (k = .whole → ct2.len = d.cap) ∧
        ct2.Cells w' α m' fun i j => cs[d.off + i * m' + j]? :=
        ⟨cs', fz, hh, h6.cells hsz hcl, by omega, by omega, fun e => by rw [hlen]; exact h9 e, fun i hi => ⟨(hc i (by omega)).1, fun j c hj => by
          obtain ⟨v, x1, x2, x3⟩ := (hc i (by omega)).2 j c hj
          exact ⟨v, carry w' c v hb hs x1, x2, x3⟩⟩⟩
      cases wb <;> cases k <;> first | (simp [SO.can] at hcan; done) | exact hfin
  · rename_i wb k T m' ct'
    obtain ⟨rfl, rfl⟩ := hr
    obtain ⟨h1, h2, ⟨hl, _⟩ | ⟨hl, hv, hcap, h4⟩⟩ := hg
    · have := hpos rfl
      rw [hl] at this; cases this
    · have h4' : ∃ (cs : Array Value) (fz : Nat × Nat), w.heap[d.blk]? = some (.cells cs T fz) ∧ fzOk true cs fz ∧ d.off + d.cap * m' ≤ cs.size ∧
        ct'.Cells w α m' fun i j => cs[d.off + i * m' + j]? := by
        cases wb <;> cases k <;> first | (simp [SO.can] at hcan; done) | exact h4
      obtain ⟨cs, fz, h5, h6, h7, h10⟩ := h4'
      refine ⟨T, cs, fz, rfl, hlies, hwr, h5, h6, h7, hcap, h1, h2, hWr, fun i hi => ⟨(hcell i hi).1, fun j c hj => ?_⟩, ?_⟩
      · obtain ⟨v, x1, x2, x3⟩ := (hcell i hi).2 j c hj
        exact ⟨v, x1, by rw [cell_of_cells h5] at x2; exact x2, x3⟩
      · intro w' ct2 cs' hh hsz hb hs ht hos hp hlen hcl hc
        refine fin w' ct2 cs' T fz hh hb hs ht hos hp hlen hc ⟨h1, h2, .inr ⟨hl, by rw [hlen]; exact hv, by omega, ?_⟩⟩
        have hfin : ∃ (cs : Array Value) (fz : Nat × Nat), w'.heap[d.blk]? = some (.cells cs T fz) ∧ fzOk true cs fz ∧ d.off + d.cap * m' ≤ cs.size ∧
          ct2.Cells w' α m' fun i j => cs[d.off + i * m' + j]? :=
          ⟨cs', fz, hh, h6.cells hsz hcl, by omega, fun i hi => ⟨(hc i (by omega)).1, fun j c hj => by
            obtain ⟨v, x1, x2, x3⟩ := (hc i (by omega)).2 j c hj
            exact ⟨v, carry w' c v hb hs x1, x2, x3⟩⟩⟩
        cases wb <;> cases k <;> first | (simp [SO.can] at hcan; done) | exact hfin
theorem R.stored (hR : R α st w) {o : Nat} {so : SO} {d : Den} (ho : st.get o = some so) (hd : α o = some d) (hcan : so.can = true) {m : Nat} {ct ct' : Ct} (hrow : so.rows = some (m, ct)) (hpos : so.isOwn = true → d.live = true)
    {p : Nat} {l : List SC} {vs : List Value} (hr : RepsG α st w l vs)
    (hc : ∀ v ∈ vs, Ev.isCell v = true) (hp : p + l.length ≤ ct.len * m) (hlen : ct'.len = ct.len)
    (hnew : ∀ i, i < ct.len → (ct'.get i).length = m ∧ ∀ j c, (ct'.get i)[j]? = some c →
      (p ≤ i * m + j ∧ i * m + j < p + l.length ∧ l[i * m + j - p]? = some c) ∨ (¬ (p ≤ i * m + j ∧ i * m + j < p + l.length) ∧ (ct.get i)[j]? = some c)) :
    ∃ w', (storeCells ⟨d.blk, d.off + p, Option.none⟩ vs).run P w = .ok () w' ∧ To α st w α (st.put o (some (so.setCt ct'))) w' := by
  obtain ⟨T, cs, fz, _, _, _, h5, h6, h7, h8, h1, h2, hWr, h10, fin⟩ := hR.toRow ho hd hcan hrow hpos
  have hcap : ct.len * m ≤ d.cap * m := Nat.mul_le_mul_right _ h8
  have hl := hr.length
  have hle : d.off + p + vs.length ≤ cs.size := by omega
  have hst := run_storeCells_fz (P := P) d.blk (d.off + p) T fz vs 0 cs w h5 h6.fzIn (by simpa using hle) hc
  simp only [Nat.add_zero] at hst
  have hsz : (cs.toList.take (d.off + p) ++ vs ++ cs.toList.drop (d.off + p + vs.length)).toArray.size = cs.size := by simp; omega
  refine ⟨_, hst, fin _ ct' _ (setRow_heap w d.blk cs _ T fz h5) hsz (fun b hb => setRow_other _ _ _ hb) (setRow_size _ _ _) (.of rfl rfl) rfl rfl hlen (fun v hv => ?_) ?_⟩
  · simp only [List.mem_append] at hv
    rcases hv with (hv | hv) | hv
    · exact h6.1 v (List.mem_of_mem_take hv)
    · exact hc v hv
    · exact h6.1 v (List.mem_of_mem_drop hv)
  intro i hi
  refine ⟨(hnew i hi).1, fun j c hj => ?_⟩
  have hg := row_get cs.toList (d.off + p) vs (by simpa using hle) (d.off + i * m + j)
  simp only [List.getElem?_toArray]
  rw [hg]
  rcases (hnew i hi).2 j c hj with ⟨a1, a2, a3⟩ | ⟨a1, a2⟩
  · rw [if_pos (by omega)]
    obtain ⟨v, x1, x2⟩ := hr.get a3
    exact ⟨v, x2, by rw [show d.off + i * m + j - (d.off + p) = i * m + j - p from by omega]; exact x1, hc v (List.mem_of_getElem? x1)⟩
  · rw [if_neg (by omega)]
    obtain ⟨v, x1, x2, x3⟩ := (h10 i hi).2 j c a2
    exact ⟨v, x1, by simpa using x2, x3⟩
theorem splice_length {l e : List SC} {j : Nat} (h : j + e.length ≤ l.length) : (splice l j e).length = l.length := by
  simp [splice]; omega
theorem splice_get {l e : List SC} {j : Nat} (h : j + e.length ≤ l.length) (x : Nat) : (splice l j e)[x]? = if j ≤ x ∧ x < j + e.length then e[x - j]? else l[x]? := by
  simp only [splice, takeL_eq, dropL_eq, List.getElem?_append, List.length_append, List.length_take, List.getElem?_take, List.getElem?_drop]
  have e2 : min j l.length = j := by omega
  simp only [e2]
  by_cases h1 : x < j
  · have x1 : x < j + e.length := by omega
    have x2 : ¬ j ≤ x := by omega
    simp [h1, x1, x2]
  · by_cases h2 : x < j + e.length
    · have x2 : j ≤ x := by omega
      simp [h1, h2, x2]
    · have x2 : j ≤ x := by omega
      simp only [h1, h2, x2, if_false, and_false]
      congr 1
      omega
theorem scatter_spec {m : Nat} (hm : 0 < m) : ∀ (n i : Nat) (ct ct' : Ct) (l : List SC), scatter m ct i l n = some ct' → l.length = n * m → i + n ≤ ct.len → (∀ i, i < ct.len → (ct.get i).length = m) →
    ct'.len = ct.len ∧ ∀ x, x < ct.len → (ct'.get x).length = m ∧ ∀ j, j < m → (ct'.get x)[j]? = if i ≤ x ∧ x < i + n then l[(x - i) * m + j]? else (ct.get x)[j]?
  | 0, i, ct, ct', l, h, hl, hi, hc => by
    simp [scatter] at h
    subst h
    refine ⟨rfl, fun x hx => ⟨hc x hx, fun j hj => ?_⟩⟩
    rw [if_neg (by omega)]
  | n + 1, i, ct, ct', l, h, hl, hi, hc => by
    simp only [scatter] at h
    split at h
    · rename_i ct1 h1
      simp only [takeL_eq, dropL_eq] at h h1
      have hl1 := Ct.set_len h1
      have hg1 := Ct.set_get h1 (by omega)
      have hlm : m ≤ l.length := by rw [hl, Nat.succ_mul]; omega
      have hc1 : ∀ x, x < ct1.len → (ct1.get x).length = m := by
        intro x hx
        rw [hg1 x (by omega)]
        split
        · simp; omega
        · exact hc x (by omega)
      obtain ⟨hA, hB⟩ := scatter_spec hm n (i + 1) ct1 ct' (l.drop m) h (by simp [hl, Nat.succ_mul]) (by omega) hc1
      refine ⟨by omega, fun x hx => ⟨(hB x (by omega)).1, fun j hj => ?_⟩⟩
      rw [(hB x (by omega)).2 j hj]
      by_cases hx1 : i + 1 ≤ x ∧ x < i + 1 + n
      · rw [if_pos hx1, if_pos (by omega), List.getElem?_drop]
        congr 1
        have : (x - i) * m = (x - (i + 1)) * m + m := by rw [show x - i = (x - (i + 1)) + 1 from by omega, Nat.succ_mul]
        omega
      · rw [if_neg hx1, hg1 x hx]
        by_cases hx2 : x = i
        · subst hx2
          rw [if_pos rfl, if_pos (by omega), List.getElem?_take]
          simp [hj]
        · rw [if_neg hx2, if_neg (by omega)]
    · simp at h
theorem intsOf_spec {k : IntKind} : ∀ {l : List (List SC)} {xs : List Int}, intsOf k l = some xs → xs.length = l.length ∧ ∀ j, j < l.length → l[j]?.getD [] = [SC.raw (.int k (xs[j]?.getD 0))]
  | [], xs, h => by simp [intsOf] at h; subst h; simp
  | e :: r, xs, h => by
    unfold intsOf at h
    split at h
    · rename_i heq; simp at heq
    · rename_i k' x r' heq
      simp only [List.cons.injEq] at heq
      obtain ⟨rfl, rfl⟩ := heq
      split at h
      · rename_i l hk hl
        cases h
        have hk : k = k' := by simpa using hk
        subst hk
        obtain ⟨h1, h2⟩ := intsOf_spec hl
        refine ⟨by simp [h1], fun j hj => ?_⟩
        cases j with
        | zero => simp
        | succ j => simp at hj; simpa using h2 j hj
      · simp at h
    · simp at h
theorem Ct.sub_len {ct : Ct} {i n : Nat} (h : i + n ≤ ct.len) : (ct.sub i n).len = n := by
  cases ct <;> simp only [Ct.sub, Ct.len] at h ⊢
  · simp; omega
  · simp; omega
  · simp
  · simp
theorem colsAt_drop (i j : Nat) : ∀ (cs : List Col), colsAt j (cs.map (Col.drop i)) = colsAt (i + j) cs
  | [] => rfl
  | .ints k xs :: r => by simp [colsAt, Col.drop, Col.at, colsAt_drop i j r]
  | .bools xs :: r => by simp [colsAt, Col.drop, Col.at, colsAt_drop i j r]
  | .data k xs :: r => by simp [colsAt, Col.drop, Col.at, colsAt_drop i j r]
theorem Ct.sub_get {ct : Ct} {i n : Nat} {j : Nat} (hj : j < n) : (ct.sub i n).get j = ct.get (i + j) := by
  cases ct with
  | lst vs => simp [Ct.sub, Ct.get, hj]
  | ints k xs => simp [Ct.sub, Ct.get, hj]
  | tab m cs => exact colsAt_drop i j cs
  | ext m cs vs => simp [Ct.sub, Ct.get, hj]
  | at1 m vs l e => simp [Ct.sub, Ct.get, hj]
theorem ctInts_spec {k : IntKind} {ct : Ct} {l : List Int} (h : ctInts k ct = some l) : l.length = ct.len ∧ ∀ j, j < ct.len → ct.get j = [SC.raw (.int k (l[j]?.getD 0))] := by
  unfold ctInts at h
  split at h
  · split at h
    · rename_i hk; subst hk; cases h
      exact ⟨rfl, fun j hj => by simp [Ct.get]⟩
    · simp at h
  · obtain ⟨h1, h2⟩ := intsOf_spec h
    exact ⟨h1, fun j hj => by simpa [Ct.get] using h2 j hj⟩
  · simp at h
  · simp at h
  · simp at h
structure Frz (α : Al) (st : St) (w : World) (st' : St) : Prop where
  to : To α st w α st' w
  is : ∀ b, Is α st w b → Is α st' w b
  len : st'.length = st.length
theorem Frz.refl (hR : R α st w) : Frz α st w st := ⟨To.refl hR, fun _ h => h, rfl⟩
theorem Frz.trans {st1 st2 : St} (h : Frz α st w st1) (h' : Frz α st1 w st2) : Frz α st w st2 := ⟨h.to.trans h'.to, fun b hb => h'.is b (h.is b hb), h'.len.trans h.len⟩
theorem CellG.frz {st' : St} {c : SC} {v : Value} (h : CellG α st w c v) (hf : ∀ b, Is α st w b → Is α st' w b) : CellG α st' w c v := ⟨h.1, fun k xs b e hb => hf b (h.2 k xs b e hb)⟩
theorem RepsG.frz {st' : St} (hf : ∀ b, Is α st w b → Is α st' w b) : ∀ {l : List SC} {vs : List Value}, RepsG α st w l vs → RepsG α st' w l vs
  | [], [], _ => trivial
  | _ :: _, _ :: _, h => ⟨h.1.frz hf, RepsG.frz hf h.2⟩
  | [], _ :: _, e => e.elim
  | _ :: _, [], e => e.elim
theorem ice_to (hR : R α st w) {o : Nat} {so so' : SO} {d : Den} (ho : st.get o = some so) (hd : α o = some d) {m : Nat} {ct : Ct} (hr : so.rows = some (m, ct)) (hi : so.ice = some so') :
    Frz α st w (st.put o (some so')) ∧ (0 < ct.len → Is α (st.put o (some so')) w d.blk) := by
  obtain ⟨d', hd', hg⟩ := hR.good o _ ho
  rw [hd] at hd'; cases hd'
  have hlt := St.get_lt ho
  obtain ⟨hm1, hm2, hcell⟩ := hg.rowsCell hr
  have key : Good α w d so' ∧ (∀ b, ¬ so'.lies w d b) ∧ so'.wr = false ∧ (∀ b, Ice w d so' b → (so.wr = true ∧ so.lies w d b) ∨ Ice w d so b) ∧ (∀ b, Ice w d so b → Ice w d so' b) ∧ (0 < ct.len → Ice w d so' d.blk) := by
    cases so <;> simp only [SO.rows, Option.some.injEq, Prod.mk.injEq, reduceCtorEq] at hr
    · rename_i wb k T m' ct'
      obtain ⟨rfl, rfl⟩ := hr
      obtain ⟨h1, h2, h4⟩ := hg
      have hlt : d.blk < w.heap.size := by
        cases k with
        | ext => exact h4.1
        | whole => obtain ⟨cs, fz, h5, _⟩ := h4; exact (Array.getElem?_eq_some_iff.1 h5).1
        | row => obtain ⟨cs, fz, h5, _⟩ := h4; exact (Array.getElem?_eq_some_iff.1 h5).1
      cases wb <;> cases k <;> simp only [SO.ice, Option.some.injEq, reduceCtorEq] at hi <;> subst hi
      · exact ⟨⟨h1, h2, hlt, hcell⟩, fun _ h => h, rfl, fun b hb => .inr hb, fun b hb => hb, fun _ => .inl rfl⟩
      · refine ⟨⟨h1, h2, hlt, hcell⟩, fun _ h => h, rfl, fun b hb => ?_, fun b hb => .inr hb, fun _ => .inl rfl⟩
        rcases hb with rfl | hb
        · exact .inl ⟨rfl, rfl⟩
        · exact .inr hb
      · refine ⟨⟨h1, h2, hlt, hcell⟩, fun _ h => h, rfl, fun b hb => ?_, fun b hb => .inr hb, fun _ => .inl rfl⟩
        rcases hb with rfl | hb
        · exact .inl ⟨rfl, rfl⟩
        · exact .inr hb
      · exact ⟨⟨h1, h2, hlt, hcell⟩, fun _ h => h, rfl, fun b hb => .inr hb, fun b hb => hb, fun _ => .inl rfl⟩
    · rename_i wb k T m' ct'
      obtain ⟨rfl, rfl⟩ := hr
      obtain ⟨h1, h2, h3⟩ := hg
      have hgood : Good α w d (.own false .ext T m' ct') := by
        refine ⟨h1, h2, ?_⟩
        rcases h3 with ⟨x1, x2, a, c, x3, _⟩ | ⟨hl, hv, hcap, h4⟩
        · exact .inl ⟨x1, x2, a, c, x3, fun e => by cases e⟩
        · refine .inr ⟨hl, hv, hcap, ?_, hcell⟩
          cases k with
          | ext => exact h4.1
          | whole => obtain ⟨cs, fz, h5, _⟩ := h4; exact (Array.getElem?_eq_some_iff.1 h5).1
          | row => obtain ⟨cs, fz, h5, _⟩ := h4; exact (Array.getElem?_eq_some_iff.1 h5).1
      have hlive : 0 < ct'.len → d.live = true := fun h0 => by
        rcases h3 with ⟨_, x2, _⟩ | ⟨hl, _⟩
        · omega
        · exact hl
      cases wb <;> cases k <;> simp only [SO.ice, Option.some.injEq, reduceCtorEq] at hi <;> subst hi
      · exact ⟨hgood, fun _ h => h, rfl, fun b hb => .inr hb, fun b hb => hb, fun h0 => ⟨hlive h0, .inl rfl⟩⟩
      · refine ⟨hgood, fun _ h => h, rfl, fun b hb => ?_, fun b hb => ⟨hb.1, .inr hb.2⟩, fun h0 => ⟨hlive h0, .inl rfl⟩⟩
        rcases hb with ⟨hl, rfl | hb⟩
        · exact .inl ⟨rfl, hl, rfl⟩
        · exact .inr ⟨hl, hb⟩
      · refine ⟨hgood, fun _ h => h, rfl, fun b hb => ?_, fun b hb => ⟨hb.1, .inr hb.2⟩, fun h0 => ⟨hlive h0, .inl rfl⟩⟩
        rcases hb with ⟨hl, rfl | hb⟩
        · exact .inl ⟨rfl, hl, rfl⟩
        · exact .inr ⟨hl, hb⟩
      · exact ⟨hgood, fun _ h => h, rfl, fun b hb => .inr hb, fun b hb => hb, fun h0 => ⟨hlive h0, .inl rfl⟩⟩
  obtain ⟨k1, k2, k3, k4, k5, k6⟩ := key
  refine ⟨⟨To.same hR ho hd k1 (fun b hb => absurd hb (k2 b)) (fun e => by rw [k3] at e; cases e) (fun b hb => (k4 b hb).imp id fun hb => ⟨o, so, d, ho, hd, hb⟩) (fun e => by rw [k3] at e; cases e), ?_, St.length_put _ _ _⟩, fun h0 => ⟨o, so', d, St.get_put_eq hlt, hd, k6 h0⟩⟩
  rintro b ⟨o1, so1, d1, h1, h2, h3⟩
  by_cases e : o = o1
  · subst e
    rw [ho] at h1; cases h1
    rw [hd] at h2; cases h2
    exact ⟨o, so', d, St.get_put_eq hlt, hd, k5 b h3⟩
  · exact ⟨o1, so1, d1, by rw [St.get_put_ne e]; exact h1, h2, h3⟩
theorem frzAt_sound (hR : R α st w) {kk : IntKind} {o i n : Nat} {cp : Option Nat} {k : List Int → St → Prop} (h : frzAt kk st o i n cp k) : ∃ so d xs st', st.get o = some so ∧ α o = some d ∧ k xs st' ∧ Frz α st w st' ∧ so.capped cp n = true ∧
    ∀ a c, (0 < n → a = some ⟨d.blk, d.off + i * d.m, none⟩ ∧ n ≤ c) → CellG α st' w (.dat kk xs) (.slice a n c) := by
  unfold frzAt at h
  split at h
  · rename_i so ho
    split at h
    · rename_i ct so' hr hi
      obtain ⟨d, hd, hg⟩ := hR.good o _ ho
      obtain ⟨hcp, h⟩ := need_iff.1 h
      obtain ⟨hb, h⟩ := need_iff.1 h
      have hb : i + n ≤ ct.len := by simpa using hb
      obtain ⟨xs, hx, h⟩ := opt_iff.1 h
      obtain ⟨h1, h2⟩ := ctInts_spec hx
      rw [Ct.sub_len hb] at h1 h2
      obtain ⟨hf, his⟩ := ice_to hR ho hd hr hi
      obtain ⟨hm, _, hcell⟩ := hg.rowsCell hr
      refine ⟨so, d, xs, _, ho, hd, h, hf, hcp, fun a c ha => ?_⟩
      by_cases hn : n = 0
      · subst hn
        have : xs = [] := List.eq_nil_of_length_eq_zero h1
        subst this
        exact ⟨.inl ⟨rfl, a, c, rfl⟩, fun k ys b e hd => by cases e; exact absurd rfl hd.1⟩
      · obtain ⟨rfl, hc⟩ := ha (by omega)
        have hlt : d.blk < w.heap.size := by
          have := hf.to.rep
          exact (by
            obtain ⟨o1, so1, d1, y1, y2, y3⟩ := his (by omega)
            obtain ⟨d2, z1, z2⟩ := hf.to.rep.good o1 so1 y1
            rw [y2] at z1; cases z1
            exact z2.lt (.inr y3))
        refine ⟨.inr ⟨fun e => by subst e; simp at h1; omega, d.blk, d.off + i * d.m, c, by rw [h1], by omega, hlt, fun j hj => ?_⟩, fun k ys b e hd => ?_⟩
        · have e1 := h2 j (by omega)
          rw [Ct.sub_get (by omega)] at e1
          obtain ⟨v, x1, x2, _⟩ := (hcell (i + j) (by omega)).2 0 _ (by rw [e1]; rfl)
          have x1 := (CellOk.val x1 (by simp))
          simp only [SC.val?, Option.some.injEq] at x1
          subst x1
          rw [← x2, hm]
          congr 2
          simp [Nat.add_assoc]
        · obtain ⟨_, o2, n2, c2, e2⟩ := hd
          simp only [Value.slice.injEq, Option.some.injEq, Addr.mk.injEq] at e2
          rw [← e2.1.1]
          exact his (by omega)
    · exact h.elim
  · exact h.elim
theorem R.list_ok (hR : R α st w) {q o i n : Nat} (h : st.list q = some (o, i, n)) : ∃ d a c e, α q = some d ∧ d.val = .slice a n c ∧ α o = some e ∧ PartOk e i n a c := by
  unfold St.list at h
  split at h
  · rename_i wb k T m ct hst
    cases h
    obtain ⟨d, hd, _, _, hg⟩ := hR.good q _ hst
    rcases hg with ⟨hl, h0, a, c, hv, _⟩ | ⟨hl, hv, _⟩
    · exact ⟨d, a, c, d, hd, by rw [hv, h0], hd, fun h1 => by omega, fun _ => .inr (.inr ⟨hl, a, hv⟩)⟩
    · exact ⟨d, _, _, d, hd, hv, hd, fun _ => by simp, fun _ => .inr (.inl (by simp [hl]))⟩
  · rename_i o' i' n' hst
    cases h
    obtain ⟨d, hd, e, a, c, he, hv, h1⟩ := hR.good q _ hst
    exact ⟨d, a, c, e, hd, hv, he, h1⟩
  · simp at h
theorem R.list_val' (hR : R α st w) {q o i n : Nat} (h : st.list q = some (o, i, n)) : ∃ d a c, α q = some d ∧ d.val = .slice a n c ∧ (∀ e, α o = some e → 0 < n → a = some ⟨e.blk, e.off + i * e.m, Option.none⟩ ∧ c = e.cap - i) ∧ ∃ e, α o = some e := by
  obtain ⟨d, a, c, e, h1, h2, h3, h4⟩ := hR.list_ok h
  exact ⟨d, a, c, h1, h2, fun e' he' h0 => by rw [h3] at he'; cases he'; exact h4.1 h0, e, h3⟩
theorem Good.room {d : Den} {so : SO} (hg : Good α w d so) {m : Nat} {ct : Ct} (hr : so.rows = some (m, ct)) (h : so.capped none 0 = true) (hpos : 0 < ct.len) : ct.len ≤ d.cap := by
  cases so <;> simp only [SO.rows, Option.some.injEq, Prod.mk.injEq, reduceCtorEq] at hr
  · rename_i wb k T m' ct'
    obtain ⟨rfl, rfl⟩ := hr
    obtain ⟨_, _, h4⟩ := hg
    cases k with
    | ext => simp [SO.capped] at h
    | whole => obtain ⟨cs, fz, _, _, _, h8, _⟩ := h4; exact h8
    | row => obtain ⟨cs, fz, _, _, _, h8, _⟩ := h4; exact h8
  · rename_i wb k T m' ct'
    obtain ⟨rfl, rfl⟩ := hr
    obtain ⟨_, _, ⟨_, h0, _⟩ | ⟨_, _, h8, _⟩⟩ := hg
    · omega
    · exact h8
theorem capped_zero {so : SO} {n : Nat} (h : so.capped none n = true) : so.capped none 0 = true := by
  cases so
  case mem wb k T m ct => cases k <;> first | rfl | exact h
  all_goals rfl
theorem frz_sound (hR : R α st w) {kk : IntKind} {c : SC} {v : Value} {k : List Int → St → Prop} (hc : CellG α st w c v) (h : frz kk st c k) : ∃ xs st', k xs st' ∧ Frz α st w st' ∧ CellG α st' w (.dat kk xs) v := by
  unfold frz at h
  split at h
  · have hv := CellOk.val hc.1 (by simp)
    simp only [SC.val?, Option.some.injEq] at hv
    subst hv
    exact ⟨[], st, h, Frz.refl hR, .inl ⟨rfl, _, _, rfl⟩, fun k ys b e hd => by cases e; exact absurd rfl hd.1⟩
  · rename_i k' xs
    split at h
    · rename_i hk
      have hk : kk = k' := by simpa using hk
      subst hk
      exact ⟨_, st, h, Frz.refl hR, hc⟩
    · exact h.elim
  · rename_i o i n cp
    obtain ⟨so, d, xs, st', ho, hd, hk, hf, hcp, hx⟩ := frzAt_sound hR h
    have hv := CellOk.val hc.1 (by simp)
    simp only [SC.val?, hd, Option.some.injEq] at hv
    subst hv
    refine ⟨xs, st', hk, hf, hx _ _ fun h0 => ⟨rfl, ?_⟩⟩
    cases cp with
    | some c =>
      have : n ≤ c := by
        cases so <;> simp only [SO.capped, decide_eq_true_eq] at hcp <;> first | exact hcp | skip
      simpa using this
    | none =>
      unfold frzAt at h
      simp only [ho] at h
      split at h
      · rename_i ct so' hr hi
        obtain ⟨_, h⟩ := need_iff.1 h
        obtain ⟨hb, h⟩ := need_iff.1 h
        have hb : i + n ≤ ct.len := by simpa using hb
        obtain ⟨d', hd', hg⟩ := hR.good o _ ho
        rw [hd] at hd'; cases hd'
        have := hg.room hr (capped_zero hcp) (by omega)
        simp only [Option.getD_none]
        omega
      · exact h.elim
  · rename_i q
    split at h
    · rename_i o i n hl
      obtain ⟨dq, a, c, hdq, hv, ha, e, he⟩ := hR.list_val' hl
      obtain ⟨so, d, xs, st', ho, hd, hk, hf, hcp, hx⟩ := frzAt_sound hR h
      have hvc := CellOk.val hc.1 (by simp)
      simp only [SC.val?, hdq, Option.some.injEq] at hvc
      subst hvc
      rw [hv]
      refine ⟨xs, st', hk, hf, hx _ _ fun h0 => ?_⟩
      obtain ⟨h1, h2⟩ := ha d hd h0
      refine ⟨h1, ?_⟩
      unfold frzAt at h
      simp only [ho] at h
      split at h
      · rename_i ct so' hr hi
        obtain ⟨_, h⟩ := need_iff.1 h
        obtain ⟨hb, h⟩ := need_iff.1 h
        have hb : i + n ≤ ct.len := by simpa using hb
        obtain ⟨d', hd', hg⟩ := hR.good o _ ho
        rw [hd] at hd'; cases hd'
        have := hg.room hr (capped_zero hcp) (by omega)
        omega
      · exact h.elim
    · exact h.elim
  · exact h.elim
theorem frzRow_sound : ∀ {p : Pat} {cs : List SC} {vs : List Value} {st : St} {k : List SC → St → Prop}, R α st w → RepsG α st w cs vs → frzRow p cs st k →
    ∃ cs' st', k cs' st' ∧ Frz α st w st' ∧ RepsG α st' w cs' vs
  | none :: p, c :: r, v :: vs, st, k, hR, hc, h => by
    simp only [frzRow] at h
    obtain ⟨cs', st', h1, h2, h3⟩ := frzRow_sound hR hc.2 h
    exact ⟨_, _, h1, h2, hc.1.frz h2.is, h3⟩
  | some kk :: p, c :: r, v :: vs, st, k, hR, hc, h => by
    simp only [frzRow] at h
    obtain ⟨xs, st1, h1, h2, h3⟩ := frz_sound hR hc.1 h
    obtain ⟨cs', st', h4, h5, h6⟩ := frzRow_sound h2.to.rep (hc.2.frz h2.is) h1
    exact ⟨_, _, h4, h2.trans h5, h3.frz h5.is, h6⟩
  | [], cs, vs, st, k, hR, hc, h => by
    have : frzRow [] cs st k = k cs st := by cases cs <;> rfl
    rw [this] at h
    exact ⟨cs, st, h, Frz.refl hR, hc⟩
  | x :: p, [], vs, st, k, hR, hc, h => by
    have : frzRow (x :: p) [] st k = k [] st := by cases x <;> rfl
    rw [this] at h
    exact ⟨[], st, h, Frz.refl hR, hc⟩
  | _ :: _, _ :: _, [], _, _, _, hc, _ => hc.elim
def CellsG (α : Al) (st : St) (w : World) (e : List SC) (g : Nat → Option Value) : Prop := ∀ j c, e[j]? = some c → ∃ v, CellG α st w c v ∧ g j = some v ∧ Ev.isCell v = true
theorem CellsG.frz {st' : St} (hf : ∀ b, Is α st w b → Is α st' w b) {e : List SC} {g : Nat → Option Value} (h : CellsG α st w e g) : CellsG α st' w e g := fun j c hj =>
  let ⟨v, h1, h2, h3⟩ := h j c hj; ⟨v, h1.frz hf, h2, h3⟩
theorem CellsG.tail {c : SC} {e : List SC} {g : Nat → Option Value} (h : CellsG α st w (c :: e) g) : CellsG α st w e fun j => g (j + 1) := fun j x hj => h (j + 1) x (by simpa using hj)
theorem frzRow_cells : ∀ {p : Pat} {e : List SC} {g : Nat → Option Value} {st : St} {k : List SC → St → Prop}, R α st w → CellsG α st w e g → frzRow p e st k →
    ∃ e' st', k e' st' ∧ Frz α st w st' ∧ e'.length = e.length ∧ CellsG α st' w e' g
  | none :: p, c :: r, g, st, k, hR, hc, h => by
    simp only [frzRow] at h
    obtain ⟨e', st', h1, h2, h3, h4⟩ := frzRow_cells hR hc.tail h
    refine ⟨_, _, h1, h2, by simp [h3], fun j x hj => ?_⟩
    cases j with
    | zero => simp at hj; subst hj; obtain ⟨v, y1, y2, y3⟩ := hc 0 c rfl; exact ⟨v, y1.frz h2.is, y2, y3⟩
    | succ j => exact h4 j x (by simpa using hj)
  | some kk :: p, c :: r, g, st, k, hR, hc, h => by
    simp only [frzRow] at h
    obtain ⟨v, y1, y2, y3⟩ := hc 0 c rfl
    obtain ⟨xs, st1, h1, h2, h3⟩ := frz_sound hR y1 h
    obtain ⟨e', st', h4, h5, h6, h7⟩ := frzRow_cells h2.to.rep (hc.tail.frz h2.is) h1
    refine ⟨_, _, h4, h2.trans h5, by simp [h6], fun j x hj => ?_⟩
    cases j with
    | zero => simp at hj; subst hj; exact ⟨v, h3.frz h5.is, y2, y3⟩
    | succ j => exact h7 j x (by simpa using hj)
  | [], e, g, st, k, hR, hc, h => by
    have : frzRow [] e st k = k e st := by cases e <;> rfl
    rw [this] at h
    exact ⟨e, st, h, Frz.refl hR, rfl, hc⟩
  | x :: p, [], g, st, k, hR, hc, h => by
    have : frzRow (x :: p) [] st k = k [] st := by cases x <;> rfl
    rw [this] at h
    exact ⟨[], st, h, Frz.refl hR, rfl, hc⟩
theorem frzRows_cells {s : Nat} : ∀ {p : Pat} {vs : List (List SC)} {g : Nat → Nat → Option Value} {st : St} {k : List (List SC) → St → Prop}, R α st w →
    (∀ i e, vs[i]? = some e → e.length = s ∧ CellsG α st w e (g i)) → frzRows p vs st k →
    ∃ vs' st', k vs' st' ∧ Frz α st w st' ∧ vs'.length = vs.length ∧ ∀ i e, vs'[i]? = some e → e.length = s ∧ CellsG α st' w e (g i)
  | p, [], g, st, k, hR, hc, h => ⟨[], st, h, Frz.refl hR, rfl, hc⟩
  | p, e :: r, g, st, k, hR, hc, h => by
    simp only [frzRows] at h
    obtain ⟨he1, he2⟩ := hc 0 e rfl
    obtain ⟨e', st1, h1, h2, h3, h4⟩ := frzRow_cells hR he2 h
    obtain ⟨r', st', h5, h6, h7, h8⟩ := frzRows_cells (g := fun i => g (i + 1)) h2.to.rep (fun i x hx => by
      obtain ⟨y1, y2⟩ := hc (i + 1) x (by simpa using hx)
      exact ⟨y1, y2.frz h2.is⟩) h1
    refine ⟨_, _, h5, h2.trans h6, by simp [h7], fun i x hx => ?_⟩
    cases i with
    | zero => simp at hx; subst hx; exact ⟨h3.trans he1, h4.frz h6.is⟩
    | succ i => exact h8 i x (by simpa using hx)
theorem putCells_sound {o i j : Nat} {d : Den} {l : List SC} {vs : List Value} {k : St → Prop} (hR : R α st w) (hd : α o = some d) (hr : RepsG α st w l vs) (hc : ∀ v ∈ vs, Ev.isCell v = true) (h : putCells st o i j l k) :
    ∃ w' st', (storeCells ⟨d.blk, d.off + i * d.m + j, none⟩ vs).run P w = .ok () w' ∧ k st' ∧ To α st w α st' w' := by
  unfold putCells at h
  split at h
  · rename_i so ho
    split at h
    · rename_i m ct hcan hrow
      split at h
      · rename_i hjm
        have hjm : j + l.length ≤ m := by simpa using hjm
        obtain ⟨hb1, hk⟩ := need_iff.1 h
        have hb1 : i < ct.len := by simpa using hb1
        obtain ⟨ct', hsc, hk⟩ := opt_iff.1 hk
        obtain ⟨dd, hdd, hgg⟩ := hR.good o _ ho
        rw [hd] at hdd; cases hdd
        have hlive := hgg.live hrow (by omega)
        obtain ⟨T, cs, fz, _, _, _, _, _, _, _, hdm, hmp, _, hg, _⟩ := hR.toRow ho hd hcan hrow hlive
        have hge := (hg i hb1).1
        have hset := Ct.set_get hsc hb1
        have hle : (i + 1) * m ≤ ct.len * m := Nat.mul_le_mul_right m hb1
        rw [Nat.succ_mul] at hle
        have key := fun hn => hR.stored (P := P) ho hd hcan hrow hlive (p := i * m + j) (ct' := ct') hr hc (by omega) (Ct.set_len hsc) hn
        have fin : _ → ∃ w' st', (storeCells ⟨d.blk, d.off + i * d.m + j, none⟩ vs).run P w = .ok () w' ∧ k st' ∧ To α st w α st' w' := fun hn =>
          let ⟨w', x1, x2⟩ := key hn
          ⟨w', _, by rw [hdm, show d.off + i * m + j = d.off + (i * m + j) from by omega]; exact x1, hk, x2⟩
        refine fin ?_
        · intro x hx
          rw [hset x (by omega)]
          by_cases hxi : x = i
          · subst hxi
            rw [if_pos rfl]
            refine ⟨by rw [splice_length (by omega)]; exact hge, fun y c hy => ?_⟩
            rw [splice_get (by omega)] at hy
            by_cases hyj : j ≤ y ∧ y < j + l.length
            · rw [if_pos hyj] at hy
              left
              refine ⟨by omega, by omega, ?_⟩
              rw [show x * m + y - (x * m + j) = y - j from by omega]
              exact hy
            · rw [if_neg hyj] at hy
              right
              exact ⟨by omega, hy⟩
          · rw [if_neg hxi]
            refine ⟨(hg x hx).1, fun y c hy => .inr ⟨?_, hy⟩⟩
            have hym : y < m := by
              rw [← (hg x hx).1]; exact (List.getElem?_eq_some_iff.1 hy).1
            by_cases hlt : x < i
            · have : x * m + m ≤ i * m := by
                have := Nat.mul_le_mul_right m (show x + 1 ≤ i from hlt)
                rw [Nat.succ_mul] at this; exact this
              omega
            · have : i * m + m ≤ x * m := by
                have := Nat.mul_le_mul_right m (show i + 1 ≤ x from by omega)
                rw [Nat.succ_mul] at this; exact this
              omega
      · exact h.elim
    · exact h.elim
  · exact h.elim
theorem putElems_sound {o i n : Nat} {d : Den} {l : List SC} {vs : List Value} {k : St → Prop} (hR : R α st w) (hd : α o = some d) (hr : RepsG α st w l vs) (hc : ∀ v ∈ vs, Ev.isCell v = true) (h : putElems st o i n l k) :
    ∃ w' st', (storeCells ⟨d.blk, d.off + i * d.m, none⟩ vs).run P w = .ok () w' ∧ k st' ∧ To α st w α st' w' := by
  unfold putElems at h
  split at h
  · rename_i so ho
    split at h
    · rename_i m ct hcan hrow
      split at h
      · rename_i hsn
        have hsn : l.length = n * m := by simpa using hsn
        obtain ⟨hb1, hk⟩ := need_iff.1 h
        have hb1 : i + n ≤ ct.len ∧ 0 < n := by simpa using hb1
        obtain ⟨hb1, hn0⟩ := hb1
        obtain ⟨ct', hsc, hk⟩ := opt_iff.1 hk
        obtain ⟨dd, hdd, hgg⟩ := hR.good o _ ho
        rw [hd] at hdd; cases hdd
        have hlive := hgg.live hrow (by omega)
        obtain ⟨T, cs, fz, _, _, _, _, _, _, _, hdm, hm, _, hg, _⟩ := hR.toRow ho hd hcan hrow hlive
        obtain ⟨hA, hB⟩ := scatter_spec hm n i ct ct' l hsc hsn hb1 (fun x hx => (hg x hx).1)
        have key := fun hn => hR.stored (P := P) ho hd hcan hrow hlive (p := i * m) (ct' := ct') hr hc (by
          have := Nat.mul_le_mul_right m hb1
          rw [Nat.add_mul] at this
          omega) hA hn
        have fin : _ → ∃ w' st', (storeCells ⟨d.blk, d.off + i * d.m, none⟩ vs).run P w = .ok () w' ∧ k st' ∧ To α st w α st' w' := fun hn =>
          let ⟨w', x1, x2⟩ := key hn
          ⟨w', _, by rw [hdm]; exact x1, hk, x2⟩
        refine fin ?_
        · intro x hx
          obtain ⟨hC, hD⟩ := hB x hx
          refine ⟨hC, fun y c hy => ?_⟩
          have hym : y < m := by
            rw [← hC]; exact (List.getElem?_eq_some_iff.1 hy).1
          rw [hD y hym] at hy
          by_cases hxi : i ≤ x ∧ x < i + n
          · rw [if_pos hxi] at hy
            left
            have e1 : x * m = i * m + (x - i) * m := by rw [← Nat.add_mul]; congr 1; omega
            have e2 : (x - i) * m + m ≤ n * m := by
              have := Nat.mul_le_mul_right m (show x - i + 1 ≤ n from by omega)
              rw [Nat.succ_mul] at this; exact this
            refine ⟨by omega, by omega, ?_⟩
            rw [show x * m + y - i * m = (x - i) * m + y from by omega]
            exact hy
          · rw [if_neg hxi] at hy
            right
            refine ⟨?_, hy⟩
            by_cases hlt : x < i
            · have : x * m + m ≤ i * m := by
                have := Nat.mul_le_mul_right m (show x + 1 ≤ i from hlt)
                rw [Nat.succ_mul] at this; exact this
              omega
            · have : (i + n) * m ≤ x * m := Nat.mul_le_mul_right m (by omega)
              rw [Nat.add_mul] at this
              omega
      · exact h.elim
    · exact h.elim
  · exact h.elim
theorem evStore_sound {T : TypeId} {a b : SA} {av bv : Value} {k : St → Prop} (hR : R α st w) (ha : a.rep α av) (hb : b.rep α bv) (h : evStore P T st a b k) :
    ∃ w' st', (Instr.storeAt T av bv).run P w = .ok () w' ∧ k st' ∧ To α st w α st' w' := by
  unfold evStore at h
  split at h
  · rename_i o i j
    split at h
    · rename_i m ct s hst hs
      obtain ⟨so, d, ho, _, hd, _, hdm, _⟩ := hR.rowsG hst
      simp only [SA.rep, SC.val?, hd, Option.some.injEq] at ha
      subst ha
      split at h
      · rename_i h1 h2
        have h1 : b.cells.length = s := by simpa using h1
        have hcs := allCells_spec h2
        have hcb : ∀ c, b = .one c → Ev.isCell bv = true := by
          rintro c rfl
          exact SC.isCell_val hR.cell hb (hcs c (by simp [SA.cells]))
        have hrep := SA.rep_cells hb hcb
        have hcell := hrep.isCell hR.cell hcs
        have hsz : bv.cells.size = s := by rw [← h1, ← hrep.length]; simp
        split at h
        · obtain ⟨w', st', x1, x2, x3⟩ := putElems_sound (P := P) hR hd hrep.toG hcell h
          refine ⟨w', st', ?_, x2, x3⟩
          simp only [Instr.storeAt, Instr.sureAddr, storeVar]
          simp [run_size hs, hsz, x1]
        · obtain ⟨cs', st1, h4, h5, h6⟩ := frzRow_sound hR hrep.toG h
          obtain ⟨w', st', x1, x2, x3⟩ := putCells_sound (P := P) h5.to.rep hd h6 hcell h4
          refine ⟨w', st', ?_, x2, h5.to.trans x3⟩
          simp only [Instr.storeAt, Instr.sureAddr, storeVar]
          simp [run_size hs, hsz, x1]
      · exact h.elim
    · exact h.elim
  · rename_i o
    split at h
    · rename_i hst hA hs hc
      obtain ⟨d, hd, a, hval⟩ := hR.good o _ hst
      simp only [SA.rep, SC.val?, hd, Option.some.injEq] at ha
      rw [hval] at ha
      subst ha
      have hbc : bv.cells = #[] := by
        cases b with
        | one c => simp [SA.cells] at hc
        | agg l =>
          simp only [SA.cells] at hc
          subst hc
          obtain ⟨vs, r, rfl⟩ := hb
          cases vs with
          | nil => rfl
          | cons _ _ => exact r.elim
      refine ⟨w, st, ?_, h, To.refl hR⟩
      simp [Instr.storeAt, Instr.sureAddr, storeVar, run_isAgg' hA, run_size hs, hbc, storeCells]
    · exact h.elim
  · exact h.elim
end Go.Ev

/- THE ENGINE, part 5: new memory; structs, arrays and slices written out; addresses; comparisons. -/
namespace Go.Ev
open Go
variable {P : Program} {α : Al} {st : St} {w : World}
def RowG (α : Al) (st : St) (w : World) (ct : Ct) (m : Nat) (g : Nat → Nat → Option Value) : Prop := ∀ i, i < ct.len →
    (ct.get i).length = m ∧ ∀ j c, (ct.get i)[j]? = some c → ∃ v, CellG α st w c v ∧ g i j = some v ∧ Ev.isCell v = true
theorem CellG.carry (hR : R α st w) {β : Al} (hle : α.le β) {w' : World} (hb : ∀ b, b < w.heap.size → Is α st w b → w'.heap[b]? = w.heap[b]?) (hs : w.heap.size ≤ w'.heap.size) {c : SC} {v : Value} (h : CellG α st w c v) : CellOk w' β c v := by
  cases c with
  | dat k xs =>
    refine DatOk.congr h.1 (fun b hd => hb b ?_ (h.2 k xs b rfl hd)) hs
    obtain ⟨o1, so1, d1, y1, y2, y3⟩ := h.2 k xs b rfl hd
    obtain ⟨d2, z1, z2⟩ := hR.good o1 so1 y1
    rw [y2] at z1; cases z1
    exact z2.lt (.inr y3)
  | _ => exact SC.val?_mono hle h.1
theorem Is.lt (hR : R α st w) {b : Nat} (h : Is α st w b) : b < w.heap.size := by
  obtain ⟨o1, so1, d1, y1, y2, y3⟩ := h
  obtain ⟨d2, z1, z2⟩ := hR.good o1 so1 y1
  rw [y2] at z1; cases z1
  exact z2.lt (.inr y3)
theorem To.row (hR : R α st w) {mk : MK} {T : TypeId} {m cap : Nat} {ct : Ct} {cs : Array Value} {fz : Nat × Nat} (hmk : mk ≠ .ext) (hm : 0 < m) (hf : fzOk false cs fz) (hs : cap * m = cs.size)
    (hc : ct.len ≤ cap) (hw : mk = .whole → ct.len = cap) (hcells : RowG α st w ct m fun i j => cs[i * m + j]?) :
    To α st w (α.add st.length ⟨w.heap.size, 0, m, cap, .nilFunc, true⟩) (st ++ [some (.mem true mk T m ct)]) (w.alloc (.cells cs T fz)) := by
  have hle := Al.le_add (d := ⟨w.heap.size, 0, m, cap, .nilFunc, true⟩) (hR.none _ (Nat.le_refl _))
  have hh := heap_alloc_eq w (.cells cs T fz)
  refine To.new hR (fun b hb => by cases mk <;> first | exact hb | exact absurd rfl hmk) (fun b hb => ?_) rfl ?_
  · have hn : Nest (w.alloc (.cells cs T fz)) ⟨w.heap.size, 0, m, cap, .nilFunc, true⟩ m ct b := by cases mk <;> first | exact hb | exact absurd rfl hmk
    obtain ⟨i, j, k, xs, v, n1, n2, n3, n4⟩ := hn
    obtain ⟨v', x1, x2, _⟩ := (hcells i n1).2 j _ n2
    rw [cell_of_cells hh] at n3
    simp only [Nat.zero_add] at n3
    have x2 : cs[i * m + j]? = some v' := x2
    rw [x2] at n3; cases n3
    exact x1.2 k xs b rfl n4
  · refine ⟨rfl, hm, ?_⟩
    have fin : ∃ (cs' : Array Value) (fz' : Nat × Nat), (w.alloc (.cells cs T fz)).heap[w.heap.size]? = some (.cells cs' T fz') ∧ fzOk false cs' fz' ∧ 0 + cap * m = cs'.size ∧ ct.len ≤ cap ∧ (mk = .whole → ct.len = cap) ∧
        ct.Cells (w.alloc (.cells cs T fz)) (α.add st.length ⟨w.heap.size, 0, m, cap, .nilFunc, true⟩) m fun i j => cs'[0 + i * m + j]? :=
      ⟨cs, fz, hh, hf, by omega, hc, hw, fun i hi => ⟨(hcells i hi).1, fun j c hj => by
        obtain ⟨v, x1, x2, x3⟩ := (hcells i hi).2 j c hj
        exact ⟨v, x1.carry hR hle (fun b hb _ => heap_alloc_lt w _ hb) (by simp), by simpa using x2, x3⟩⟩⟩
    cases mk with
    | ext => exact absurd rfl hmk
    | whole => exact fin
    | row => exact fin
theorem To.rowOwn (hR : R α st w) {T : TypeId} {m cap : Nat} {ct : Ct} {cs : Array Value} {fz : Nat × Nat} (hm : 0 < m) (hf : fzOk true cs fz) (hs : cap * m ≤ cs.size)
    (hc : ct.len ≤ cap) (hcells : RowG α st w ct m fun i j => cs[i * m + j]?) :
    To α st w (α.add st.length ⟨w.heap.size, 0, m, cap, .slice (some ⟨w.heap.size, 0, none⟩) ct.len cap, true⟩) (st ++ [some (.own true .row T m ct)]) (w.alloc (.cells cs T fz)) := by
  have hle := Al.le_add (d := ⟨w.heap.size, 0, m, cap, .slice (some ⟨w.heap.size, 0, none⟩) ct.len cap, true⟩) (hR.none _ (Nat.le_refl _))
  have hh := heap_alloc_eq w (.cells cs T fz)
  refine To.new hR (fun b hb => hb.2) (fun b hb => ?_) rfl ?_
  · obtain ⟨_, i, j, k, xs, v, n1, n2, n3, n4⟩ := hb
    obtain ⟨v', x1, x2, _⟩ := (hcells i n1).2 j _ n2
    rw [cell_of_cells hh] at n3
    simp only [Nat.zero_add] at n3
    have x2 : cs[i * m + j]? = some v' := x2
    rw [x2] at n3; cases n3
    exact x1.2 k xs b rfl n4
  · refine ⟨rfl, hm, .inr ⟨rfl, rfl, hc, cs, fz, hh, hf, by simpa using hs, fun i hi => ⟨(hcells i hi).1, fun j c hj => ?_⟩⟩⟩
    obtain ⟨v, x1, x2, x3⟩ := (hcells i hi).2 j c hj
    exact ⟨v, x1.carry hR hle (fun b hb _ => heap_alloc_lt w _ hb) (by simp), by simpa using x2, x3⟩
theorem chunks_length {α : Type} (m : Nat) : ∀ (n : Nat) (l : List α), (chunks m n l).length = n
  | 0, _ => rfl
  | n + 1, l => by simp [chunks, chunks_length m n]
theorem chunks_get {α : Type} (m : Nat) : ∀ (n : Nat) (l : List α) (i : Nat), i < n → (chunks m n l)[i]? = some ((l.drop (i * m)).take m)
  | n + 1, l, 0, _ => by simp [chunks]
  | n + 1, l, i + 1, h => by
    simp only [chunks, List.getElem?_cons_succ, dropL_eq, takeL_eq]
    rw [chunks_get m n _ i (by omega), List.drop_drop, Nat.succ_mul, Nat.add_comm]
theorem SA.cells_rep (hR : R α st w) {a : SA} {v : Value} (h : a.rep α v) (hc : allCells a.cells = true) : Reps α a.cells v.cells.toList := by
  refine SA.rep_cells h fun c e => ?_
  subst e
  exact SC.isCell_val hR.cell h (allCells_spec hc c (by simp [SA.cells]))
theorem run_newVar (T : TypeId) (v : Value) : (newVar T v).run P w = .ok ⟨w.heap.size, 0, none⟩ (w.alloc (.cells v.cells T)) := by
  simp [newVar, newRow]
theorem To.alloc (hR : R α st w) {ob : Obj} : To α st w α st (w.alloc ob) :=
  have key : ∀ o so d, st.get o = some so → α o = some d → Good α (w.alloc ob) d so ∧ (∀ b, Foot (w.alloc ob) d so b → Foot w d so b) ∧ (∀ b, Ice (w.alloc ob) d so b → Ice w d so b) ∧ ∀ b, so.lies (w.alloc ob) d b → so.lies w d b := fun o so d ho hd => by
    obtain ⟨d', h1, h2⟩ := hR.good o so ho
    rw [hd] at h1; cases h1
    have hag : ∀ b, Foot w d so b → (w.alloc ob).heap[b]? = w.heap[b]? := fun b hb => heap_alloc_lt w ob (h2.lt hb)
    obtain ⟨g1, g2⟩ := h2.kept (Al.le.refl _) hag (by simp)
    exact ⟨g1, g2, fun b => Ice.congr hag, fun b => SO.lies_congr h2 hag⟩
  ⟨⟨fun o so ho => let ⟨d, h1, _⟩ := hR.good o so ho; ⟨d, h1, (key o so d ho h1).1⟩, fun o o' so so' d d' b hne ho ho' hd hd' hw hb hf => hR.sep o o' so so' d d' b hne ho ho' hd hd' hw ((key o so d ho hd).2.2.2 b hb) ((key o' so' d' ho' hd').2.1 b hf),
    fun o so d b ho hd hw hb hi => hR.self o so d b ho hd hw ((key o so d ho hd).2.2.2 b hb) ((key o so d ho hd).2.2.1 b hi), hR.none, hR.cell⟩,
   fun _ _ => rfl, Nat.le_refl _, fun o so d b h1 h2 _ h3 => .inr ⟨St.get_lt h1, so, h1, (key o so d h1 h2).2.2.2 b h3⟩, fun o so d b h1 h2 _ h3 => .inr ⟨o, so, d, h1, h2, (key o so d h1 h2).2.2.1 b h3⟩, fun _ _ ⟨o, so, d, x1, x2, x3, x4⟩ => ⟨o, so, d, x1, x2, x3, (key o so d x1 x2).2.2.2 _ x4⟩, fun b hb _ => heap_alloc_lt w ob hb, by simp, .of rfl rfl, rfl, rfl⟩
theorem evNew_sound {T : TypeId} {cells : List SC} {v : Value} {k : SV → St → Prop} (hR : R α st w) (hr : allCells cells = true → Reps α cells v.cells.toList) (h : evNew P st T cells k) :
    ∃ α' sv st', sv.rep α' (.pointer (some ⟨w.heap.size, 0, none⟩)) ∧ k sv st' ∧ To α st w α' st' (w.alloc (.cells v.cells T)) := by
  unfold evNew at h
  split at h
  · rename_i hac
    have hrep := hr hac
    have hcell := hrep.isCell hR.cell (allCells_spec hac)
    have hlen : v.cells.size = cells.length := by rw [← hrep.length]; simp
    split at h
    · rename_i n e hu
      split at h
      · rename_i s hs
        split at h
        · rename_i hd
          have hd : 0 < s ∧ cells.length = n * s := by simpa using hd
          refine ⟨_, _, _, ?_, h, To.row (cap := n) hR (by simp) hd.1 (.zero hcell) (by rw [hlen, hd.2]) (by simp [Ct.len, chunks_length]) (fun _ => by simp [Ct.len, chunks_length]) ?_⟩
          · simp [SV.rep, SA.rep, SC.val?, Al.add_same]
          · intro i hi
            simp only [Ct.len, chunks_length] at hi
            simp only [Ct.get, getL_eq, chunks_get s n cells i hi, Option.getD_some]
            have hin : i * s + s ≤ n * s := by
              have := Nat.mul_le_mul_right s (show i + 1 ≤ n from hi)
              rw [Nat.succ_mul] at this; exact this
            refine ⟨by simp; omega, fun j c hj => ?_⟩
            rw [List.getElem?_take] at hj
            split at hj
            · rw [List.getElem?_drop] at hj
              obtain ⟨u, x1, x2⟩ := hrep.get hj
              exact ⟨u, CellG.of x2, by simpa using x1, hcell u (List.mem_of_getElem? x1)⟩
            · simp at hj
        · exact h.elim
      · exact h.elim
    · split at h
      · rename_i hd
        have hd : 0 < cells.length := by simpa using hd
        refine ⟨_, _, _, ?_, h, To.row (cap := 1) hR (by simp) (by simpa using hd) (.zero hcell) (by simp [hlen]) (by simp [Ct.len]) (fun _ => by simp [Ct.len]) ?_⟩
        · simp [SV.rep, SA.rep, SC.val?, Al.add_same]
        · intro i hi
          have hi : i = 0 := by simp [Ct.len] at hi; exact hi
          subst hi
          simp only [Ct.get, getL_eq, List.getElem?_cons_zero, Option.getD_some, lenL_eq]
          refine ⟨trivial, fun j c hj => ?_⟩
          obtain ⟨u, x1, x2⟩ := hrep.get hj
          exact ⟨u, CellG.of x2, by simpa using x1, hcell u (List.mem_of_getElem? x1)⟩
      · have h0 : To α st w α st (w.alloc (.cells v.cells T)) := To.alloc hR
        refine ⟨_, _, _, ?_, h, h0.trans (To.ghost (d := ⟨0, 0, 0, 0, .pointer (some ⟨w.heap.size, 0, none⟩), true⟩) h0.rep (fun _ h => h) (fun _ h => h.elim) rfl ⟨_, rfl⟩)⟩
        simp [SV.rep, SA.rep, SC.val?, Al.add_same]
    · exact h.elim
  · exact h.elim
theorem evAlloc_sound {T : TypeId} {z : Value} {k : SV → St → Prop} (hR : R α st w) (hz : tZero P T = some z) (h : evNew P st T (z.cells.toList.map .raw) k) :
    Got P α st w (Instr.alloc T true (.tuple #[])) k := by
  obtain ⟨α', sv, st', x1, x2, x3⟩ := evNew_sound hR (v := z) (fun _ => Reps.raw _) h
  exact ⟨_, _, α', sv, st', by simp [Instr.alloc, run_zero hz, run_newVar], x1, x2, x3⟩
theorem evBox_sound {T : TypeId} {a : SA} {v : Value} {k : SV → St → Prop} (hR : R α st w) (ha : a.rep α v) (h : evNew P st T a.cells k) :
    Got P α st w (Instr.box T v) k := by
  obtain ⟨α', sv, st', x1, x2, x3⟩ := evNew_sound hR (v := v) (fun hc => SA.cells_rep hR ha hc) h
  exact ⟨_, _, α', sv, st', by simp [Instr.box, run_newVar], x1, x2, x3⟩
theorem foldl_set_get (off : Nat) : ∀ (l : List Value) (k : Nat) (cs : Array Value) (j : Nat),
    ((l.zipIdx k).foldl (fun (cs : Array Value) (x : Value × Nat) => cs.setIfInBounds (off + x.2) x.1) cs).size = cs.size ∧
    (off + k + l.length ≤ cs.size → ((l.zipIdx k).foldl (fun (cs : Array Value) (x : Value × Nat) => cs.setIfInBounds (off + x.2) x.1) cs)[j]? = if off + k ≤ j ∧ j < off + k + l.length then l[j - (off + k)]? else cs[j]?)
  | [], k, cs, j => ⟨rfl, fun _ => by simp; intros; omega⟩
  | v :: l, k, cs, j => by
    obtain ⟨h1, h2⟩ := foldl_set_get off l (k + 1) (cs.setIfInBounds (off + k) v) j
    simp only [List.zipIdx_cons, List.foldl_cons]
    refine ⟨by rw [h1]; simp, fun h => ?_⟩
    rw [h2 (by simp at h ⊢; omega), Array.getElem?_setIfInBounds]
    simp only [List.length_cons] at h ⊢
    by_cases c1 : off + (k + 1) ≤ j ∧ j < off + (k + 1) + l.length
    · rw [if_pos c1, if_pos (by omega), show j - (off + k) = (j - (off + (k + 1))) + 1 from by omega]
      simp
    · rw [if_neg c1]
      by_cases c2 : off + k = j
      · subst c2
        rw [if_pos rfl, if_pos (by omega), if_pos (by omega)]
        simp
      · rw [if_neg c2, if_neg (by omega)]
theorem fill_size {v : Array Value} (off : Nat) (cs : Array Value) : (v.zipIdx.foldl (fun (cs : Array Value) (x : Value × Nat) => cs.setIfInBounds (off + x.2) x.1) cs).size = cs.size := by
  rw [← Array.foldl_toList, Array.toList_zipIdx]
  exact (foldl_set_get off v.toList 0 cs 0).1
theorem fill_get {v : Array Value} {off : Nat} {cs : Array Value} (h : off + v.size ≤ cs.size) (j : Nat) :
    (v.zipIdx.foldl (fun (cs : Array Value) (x : Value × Nat) => cs.setIfInBounds (off + x.2) x.1) cs)[j]? = if off ≤ j ∧ j < off + v.size then v[j - off]? else cs[j]? := by
  rw [← Array.foldl_toList, Array.toList_zipIdx]
  have := (foldl_set_get off v.toList 0 cs j).2 (by simpa using h)
  simpa using this
def RepsP (α : Al) : List (Nat × SA) → List (Nat × Value) → Prop
  | [], [] => True
  | a :: l, v :: vs => (a.1 = v.1 ∧ a.2.rep α v.2) ∧ RepsP α l vs
  | _, _ => False
theorem fillL_sound (hR : R α st w) {pl pl' : Nat → Option (Nat × Nat)} (hpl : ∀ i, pl i = pl' i) : ∀ {parts : List (Nat × SA)} {vs : List (Nat × Value)} {cells out : List SC} {cs : Array Value},
    RepsP α parts vs → Reps α cells cs.toList → fillL pl cells parts = some out → ∃ r : Array Value, Instr.fill pl' cs vs = some r ∧ Reps α out r.toList
  | [], [], cells, out, cs, _, hr, h => by simp [fillL] at h; subst h; exact ⟨cs, rfl, hr⟩
  | (i, a) :: parts, (i', v) :: vs, cells, out, cs, hp, hr, h => by
    obtain ⟨⟨rfl, ha⟩, hp⟩ := hp
    simp only [fillL, hpl] at h
    simp only [Instr.fill]
    split at h
    · simp at h
    · rename_i off size hplace
      simp only [lenL_eq] at h
      split at h
      · rename_i hc
        obtain ⟨h1, h2, h3⟩ := hc
        have hcr := SA.cells_rep hR ha h3
        have hvs : v.cells.size = size := by rw [← h1, ← hcr.length]; simp
        have hcsz : cs.size = cells.length := by rw [← hr.length]; simp
        have hcond : ¬ (v.cells.size ≠ size ∨ off + v.cells.size > cs.size) := by omega
        have hgo : Reps α (splice cells off a.cells) (v.cells.zipIdx.foldl (fun (cs : Array Value) (x : Value × Nat) => cs.setIfInBounds (off + x.2) x.1) cs).toList := by
          refine Reps.mk ?_ fun j c hj => ?_
          · rw [splice_length (by omega), Array.length_toList, fill_size]; omega
          · rw [splice_get (by omega)] at hj
            rw [Array.getElem?_toList, fill_get (by omega)]
            split at hj
            · rw [if_pos (by omega)]
              have := hcr.get hj
              simpa using this
            · rw [if_neg (by omega)]
              have := hr.get hj
              simpa using this
        obtain ⟨r, x1, x2⟩ := fillL_sound hR hpl hp hgo h
        refine ⟨r, ?_, x2⟩
        have hcond' : (decide (v.cells.size ≠ size) || decide (off + v.cells.size > cs.size)) = false := by simp; omega
        simp only [ne_eq, decide_not, gt_iff_lt] at hcond'
        simp only [hplace, hvs]
        rw [if_neg (by simp; omega)]
        exact x1
      · simp at h
  | [], _ :: _, _, _, _, hp, _, _ => hp.elim
  | _ :: _, [], _, _, _, hp, _, _ => hp.elim
theorem placesOf_spec (w : World) : ∀ {fs : List Field} {l : List (Nat × Nat)}, placesOf P fs = some l → (fs.mapM fun f => (do pure (f.offset, ← sizeOf f.type) : Sem (Nat × Nat))).run P w = .ok l w
  | [], l, h => by simp [placesOf] at h; subst h; simp
  | f :: fs, l, h => by
    simp only [placesOf] at h
    split at h
    · rename_i s l' hs hl'
      cases h
      have ih := placesOf_spec w hl'
      simp only [bind_pure_comp] at ih
      simp [run_size hs, ih]
    · simp at h
theorem evBuild_sound (hR : R α st w) {T : TypeId} {parts : List (Nat × SA)} {vs : Array (Nat × Value)} {out : List SC} (hp : RepsP α parts vs.toList) (h : evBuild P T parts = some out) :
    ∃ v, (Instr.build T vs).run P w = .ok v w ∧ (SA.agg out).rep α v := by
  unfold evBuild at h
  split at h
  · rename_i z fs hz hu
    split at h
    · rename_i pl hpl
      obtain ⟨r, x1, x2⟩ := fillL_sound (pl' := fun i => pl.toArray[i]?) hR (by simp) hp (Reps.raw z.cells.toList) h
      refine ⟨.agg r, ?_, r.toList, x2, by simp⟩
      have hm := placesOf_spec w hpl
      have hm' : (fs.mapM fun f => (do pure (f.offset, ← sizeOf f.type) : Sem (Nat × Nat))).run P w = .ok pl.toArray w := by
        rw [Array.mapM_eq_mapM_toList]
        simp only [Sem.run_map, hm, Result.andThen_ok]
      simp only [Instr.build, Sem.run_bind, run_zero hz, Result.andThen_ok, run_under hu, hm', x1]
      rfl
    · simp at h
  · rename_i z n e hz hu
    split at h
    · rename_i s hs
      obtain ⟨r, x1, x2⟩ := fillL_sound (pl' := fun i => some (i * s, s)) hR (fun _ => rfl) hp (Reps.raw z.cells.toList) h
      refine ⟨.agg r, ?_, r.toList, x2, by simp⟩
      simp only [Instr.build, Sem.run_bind, run_zero hz, Result.andThen_ok, run_under hu, run_size hs, x1]
      rfl
    · simp at h
  · simp at h
end Go.Ev

/- THE ENGINE, part 6: slices written out; addresses; comparisons; slicing; function values; maps made. -/
namespace Go.Ev
open Go
variable {P : Program} {α : Al} {st : St} {w : World}
def Flat (α : Al) (st : St) (w : World) (s : Nat) (vs : List (List SC)) (cs : Array Value) : Prop := cs.size = vs.length * s ∧ RowG α st w (.lst vs) s fun i j => cs[i * s + j]?
theorem mul_lt_of {i n s : Nat} (h : i < n) : i * s + s ≤ n * s := by
  have := Nat.mul_le_mul_right s (show i + 1 ≤ n from h)
  rw [Nat.succ_mul] at this; exact this
theorem fillS_sound (hR : R α st w) {s : Nat} : ∀ {parts : List (Nat × SA)} {ps : List (Nat × Value)} {vs out : List (List SC)} {cs : Array Value},
    RepsP α parts ps → Flat α st w s vs cs → fillS s vs parts = some out → ∃ r : Array Value, Instr.fill (fun i => some (i * s, s)) cs ps = some r ∧ Flat α st w s out r ∧ out.length = vs.length
  | [], [], vs, out, cs, _, hf, h => by simp [fillS] at h; subst h; exact ⟨cs, rfl, hf, rfl⟩
  | (i, a) :: parts, (i', v) :: ps, vs, out, cs, hp, hf, h => by
    obtain ⟨⟨rfl, ha⟩, hp⟩ := hp
    simp only [fillS, lenL_eq, setL_eq] at h
    split at h
    · rename_i hc
      obtain ⟨h1, h2, h3⟩ := hc
      have hcr := SA.cells_rep hR ha h3
      have hvs : v.cells.size = s := by rw [← h1, ← hcr.length]; simp
      have hcell := hcr.isCell hR.cell (allCells_spec h3)
      have hin := mul_lt_of (s := s) h2
      have hsz := hf.1
      have hgo : Flat α st w s (vs.set i a.cells) (v.cells.zipIdx.foldl (fun (cs : Array Value) (x : Value × Nat) => cs.setIfInBounds (i * s + x.2) x.1) cs) := by
        refine ⟨by rw [fill_size]; simpa using hsz, fun i1 hi1 => ?_⟩
        simp only [Ct.len, List.length_set] at hi1
        have hold := hf.2 i1 hi1
        simp only [Ct.get, getL_eq, List.getElem?_set] at hold ⊢
        by_cases e : i = i1
        · subst e
          rw [if_pos rfl, if_pos h2]
          simp only [Option.getD_some]
          refine ⟨h1, fun j c hj => ?_⟩
          have hjs : j < s := by rw [← h1]; exact (List.getElem?_eq_some_iff.1 hj).1
          rw [fill_get (by omega), if_pos (by omega), show i * s + j - i * s = j from by omega]
          have := hcr.get hj
          obtain ⟨u, x1, x2⟩ := this
          exact ⟨u, CellG.of x2, by simpa using x1, hcell u (List.mem_of_getElem? x1)⟩
        · rw [if_neg e]
          refine ⟨hold.1, fun j c hj => ?_⟩
          have hjs : j < s := by rw [← hold.1]; exact (List.getElem?_eq_some_iff.1 hj).1
          obtain ⟨u, x1, x2, x3⟩ := hold.2 j c hj
          refine ⟨u, x1, ?_, x3⟩
          rw [fill_get (by omega), if_neg ?_]
          · exact x2
          · rcases Nat.lt_or_gt_of_ne e with hlt | hgt
            · have := mul_lt_of (s := s) hlt; omega
            · have := mul_lt_of (s := s) hgt; omega
      obtain ⟨r, x1, x2, x3⟩ := fillS_sound hR hp hgo h
      refine ⟨r, ?_, x2, by simpa using x3⟩
      simp only [Instr.fill]
      rw [if_neg (by simp; omega)]
      exact x1
    · simp at h
  | [], _ :: _, _, _, _, hp, _, _ => hp.elim
  | _ :: _, [], _, _, _, hp, _, _ => hp.elim
theorem flat_zero {α : Al} {st : St} {w : World} {s : Nat} (len : Nat) (z : Array Value) (hz : z.size = s) (hcz : allCells (z.toList.map .raw) = true) :
    Flat α st w s (List.replicate len (z.toList.map SC.raw)) ((Array.range (len * s)).map fun i => z[i % z.size]!) := by
  refine ⟨by simp, fun i hi => ?_⟩
  simp only [Ct.len, List.length_replicate] at hi
  have hin := mul_lt_of (s := s) hi
  simp only [Ct.get, getL_eq, List.getElem?_replicate, hi, if_true, Option.getD_some]
  refine ⟨by simpa using hz, fun j c hj => ?_⟩
  simp only [List.getElem?_map] at hj
  cases hv : z.toList[j]? with
  | none => simp [hv] at hj
  | some v =>
    simp [hv] at hj
    subst hj
    have hjs : j < z.size := by have := (List.getElem?_eq_some_iff.1 hv).1; simpa using this
    refine ⟨v, CellG.of rfl, ?_, allCells_spec hcz (.raw v) (List.mem_map.2 ⟨v, List.mem_of_getElem? hv, rfl⟩)⟩
    have hlt : i * s + j < len * s := by omega
    have hmod : (i * s + j) % z.size = j := by rw [hz, Nat.mul_comm, Nat.mul_add_mod]; exact Nat.mod_eq_of_lt (by omega)
    simp only [Array.getElem?_map, Array.getElem?_range, hlt, if_true, Option.map_some, hmod]
    congr 1
    rw [Array.getElem?_toList] at hv
    rw [getElem!_pos z j hjs]
    rw [Array.getElem?_eq_getElem hjs] at hv
    exact Option.some.inj hv
theorem flat_isCell {α : Al} {st : St} {w : World} {s : Nat} {vs : List (List SC)} {cs : Array Value} (hs : 0 < s) (h : Flat α st w s vs cs) : ∀ v ∈ cs.toList, Ev.isCell v = true := by
  intro v hv
  obtain ⟨z, hz, rfl⟩ := List.getElem_of_mem hv
  simp only [Array.length_toList] at hz
  have hz2 : z < vs.length * s := by rw [← h.1]; exact hz
  have hq : z / s < vs.length := Nat.div_lt_of_lt_mul (by rw [Nat.mul_comm]; exact hz2)
  have hr : z % s < s := Nat.mod_lt _ hs
  have hzq : z / s * s + z % s = z := by rw [Nat.mul_comm]; exact Nat.div_add_mod z s
  obtain ⟨hl, h2⟩ := h.2 _ hq
  obtain ⟨v, _, a2, a3⟩ := h2 _ _ (List.getElem?_eq_getElem (show z % s < _ by rw [hl]; exact hr))
  simp only [hzq] at a2
  rw [Array.getElem?_eq_getElem hz] at a2
  cases a2
  simpa using a3
theorem evBuildSlice_sound (hR : R α st w) {T : TypeId} {len : Nat} {parts : List (Nat × SA)} {ps : Array (Nat × Value)} {k : SV → St → Prop} (hp : RepsP α parts ps.toList)
    (h : evBuildSlice P T len parts st k) : Got P α st w (Instr.buildSlice T len ps) k := by
  unfold evBuildSlice at h
  split at h
  · rename_i e hu
    split at h
    · rename_i z s hz hs
      split at h
      · rename_i hd
        have hd : 0 < s ∧ z.cells.size = s ∧ len * s ≤ 2 ^ 24 ∧ allCells (z.cells.toList.map .raw) = true := by simpa using hd
        obtain ⟨vs, hvs, hk⟩ := opt_iff.1 h
        rw [repL_eq] at hvs
        obtain ⟨r, x1, x2, x3⟩ := fillS_sound hR hp (flat_zero len z.cells hd.2.1 hd.2.2.2) hvs
        have hlen : vs.length = len := by simpa using x3
        have hsz : r.size = len * s := by rw [x2.1, hlen]
        have hto := To.row (T := e) (mk := .whole) (cap := len) (ct := .lst vs) (cs := r) hR (by simp) hd.1 (.zero (flat_isCell hd.1 x2)) (by omega) (by simp [Ct.len, hlen]) (fun _ => by simp [Ct.len, hlen]) x2.2
        refine ⟨.slice (some ⟨w.heap.size, 0, none⟩) len len, _, _, _, _, ?_, ?_, hk, hto⟩
        · have hn : ¬ (len * s > 2 ^ 24) := by omega
          by_cases h0 : len * s = 0
          · have hl0 : len = 0 := by
              rcases Nat.mul_eq_zero.1 h0 with h | h
              · exact h
              · omega
            subst hl0
            have he : ∀ f : Nat → Value, (Array.range (0 * s)).map f = #[] := fun f => Array.eq_empty_of_size_eq_zero (by simp)
            rw [he] at x1
            simp only [Instr.buildSlice, Sem.run_bind, run_under hu, Result.andThen_ok, run_size hs, he]
            simp [x1, newRow]
          · simp only [Instr.buildSlice, Sem.run_bind, run_under hu, Result.andThen_ok, run_size hs]
            simp [hn, h0, run_zero hz, x1, newRow]
        · simp [SV.rep, SA.rep, SC.val?, Al.add_same]
      · exact h.elim
    · exact h.elim
  · exact h.elim
def nilSem : Value → Sem Next
  | .pointer none | .nilIface | .nilFunc => runtimePanic .nilDeref
  | .func (.method name) first captured =>
    match (first[0]? : Option Value) with
    | some .nilIface => runtimePanic .nilDeref
    | some (.iface t w) => do
      if (← nilAhead ((← program).types.size + Made.depth) t w name) != some false then
        unsupported (.noEntry "op/nilCheck.the method's receiver behind this interface value is a nil pointer, or cannot be seen to be none, and the arguments act or may panic (ledger 612)")
      pure (.value (.func (.method name) first captured))
    | _ => pure (.value (.func (.method name) first captured))
  | x => pure (.value x)
theorem evNilCheck_sound {a b : SA} {v : Value} (hR : R α st w) (ha : a.rep α v) (h : evNilCheck a st = some b) :
    b.rep α v ∧ (nilSem v).run P w = .ok (.value v) w := by
  unfold evNilCheck at h
  split at h
  · cases h
    refine ⟨ha, ?_⟩
    simp only [SA.rep, SC.val?] at ha
    split at ha <;> simp at ha
    subst ha
    rfl
  · rename_i o
    split at h
    · rename_i f a1 b1 hst
      cases h
      refine ⟨ha, ?_⟩
      obtain ⟨d, hd, va, vb, x1, x2, x3⟩ := hR.good o _ hst
      simp only [SA.rep, SC.val?, hd, Option.some.injEq] at ha
      rw [x3] at ha
      subst ha
      rfl
    · rename_i hst
      cases h
      refine ⟨ha, ?_⟩
      obtain ⟨d, hd, x3, _⟩ := hR.good o _ hst
      simp only [SA.rep, SC.val?, hd, Option.some.injEq] at ha
      rw [x3] at ha
      subst ha
      rfl
    · simp at h
  · cases h
    refine ⟨ha, ?_⟩
    simp only [SA.rep, SC.val?, Option.some.injEq] at ha
    subst ha
    rfl
  · simp at h
theorem evFieldAddr_sound {S : TypeId} {a b : SA} {v : Value} {f : Nat} (ha : a.rep α v) (h : evFieldAddr P S a f = some b) :
    ∃ u, (Instr.fieldAt S v f).run P w = .ok u w ∧ b.rep α u := by
  unfold evFieldAddr at h
  split at h
  · rename_i o i j fs hu
    split at h
    · rename_i fd hfd
      split at h
      · rename_i n hs
        cases h
        simp only [SA.rep, SC.val?] at ha
        split at ha
        · rename_i d hd
          simp at ha
          subst ha
          have hfd' : fs[f]? = some fd := by simpa using hfd
          refine ⟨.pointer (some ⟨d.blk, d.off + i * d.m + j + fd.offset, none⟩), ?_, by simp [SA.rep, SC.val?, hd, Nat.add_assoc]⟩
          simp [Instr.fieldAt, run_under hu, hfd', Instr.sureAddr, fieldPlace, run_size hs, addr_add]
        · simp at ha
      · simp at h
    · simp at h
  · simp at h
theorem readAt_agg {T : TypeId} {l : List SC} {vs : List Value} {off : Nat} {a : SA} (hr : Reps α l vs) (h : readAt P T l off = some a) :
    ∃ v, (part T vs.toArray off).run P w = .ok v w ∧ a.rep α v := by
  unfold readAt at h
  have hl := hr.length
  cases hA : tIsAgg P T with
  | none => simp [hA] at h
  | some g =>
    have hA' := run_isAgg' hA w
    cases g with
    | true =>
      cases hs : tSize P T with
      | none => simp [hA, hs] at h
      | some s =>
        simp only [hA, hs, lenL_eq, takeL_eq, dropL_eq] at h
        split at h
        · cases h
          refine ⟨.agg ((vs.drop off).take s).toArray, ?_, _, (hr.drop off).take s, rfl⟩
          simp only [part, Sem.run_bind, hA', Result.andThen_ok, if_true, run_size hs, Sem.run_pure]
          congr 2
          simp [List.take_drop]
        · simp at h
    | false =>
      simp only [hA, lenL_eq, getL_eq] at h
      split at h
      · rename_i hlt
        cases h
        obtain ⟨v, h1, h2⟩ := hr.get (i := off) (c := l[off]) (by simp [hlt])
        refine ⟨v, ?_, by simpa [SA.rep, hlt] using h2⟩
        simp [part, hA', h1]
      · simp at h
theorem evField_sound {T : TypeId} {a b : SA} {v : Value} {f : Nat} (ha : a.rep α v) (h : evField P T a f = some b) :
    ∃ u, (Instr.field T v f).run P w = .ok u w ∧ b.rep α u := by
  unfold evField at h
  split at h
  · rename_i l fs hu
    split at h
    · rename_i fd hfd
      obtain ⟨vs, hr, rfl⟩ := ha
      obtain ⟨u, x1, x2⟩ := readAt_agg (w := w) hr h
      have hfd' : fs[f]? = some fd := by simpa using hfd
      exact ⟨u, by simp [Instr.field, run_under hu, hfd', asAgg, x1], x2⟩
    · simp at h
  · simp at h
theorem pickAt_spec {z : Int} {k : Nat → Prop} : ∀ {c s : Nat}, pickAt z k c s → ∃ j : Nat, z = (j : Int) ∧ k j
  | 0, _, h => h.elim
  | c + 1, s, h => by
    rcases branch_or h with ⟨e, h⟩ | ⟨_, h⟩
    · exact ⟨s, by simpa using e, h⟩
    · exact pickAt_spec h
theorem atElem_spec {ct : Ct} {i : Nat} {z : Int} {k : Nat → Prop} (h : atElem ct i z k) : k z.toNat := by
  unfold atElem at h
  split at h
  · split at h
    · obtain ⟨j, e, hk⟩ := pickAt_spec h
      subst e; simpa using hk
    · exact h
  · exact h
theorem SC.list_val (hR : R α st w) {c : SC} {v : Value} {o i n : Nat} (hc : c.val? α = some v) (h : c.list st = some (o, i, n)) :
    ∃ d a cp, α o = some d ∧ v = .slice a n cp ∧ (0 < n → a = some ⟨d.blk, d.off + i * d.m, Option.none⟩) := by
  cases c <;> simp only [SC.list, reduceCtorEq] at h
  · rename_i o' i' n' cp
    cases h
    simp only [SC.val?] at hc
    split at hc
    · rename_i d hd; simp at hc; subst hc; exact ⟨d, _, _, hd, rfl, fun _ => rfl⟩
    · simp at hc
  · rename_i q
    obtain ⟨dq, a, cp, hdq, hv, ha, e, he⟩ := hR.list_val' h
    simp only [SC.val?, hdq, Option.some.injEq] at hc
    subst hc
    exact ⟨e, a, cp, he, hv, fun h0 => (ha e he h0).1⟩
theorem evIndexAddr_sound {T : TypeId} {x ix : SA} {xv iv : Value} {k : SV → Prop} (hR : R α st w) (hx : x.rep α xv) (hi : ix.rep α iv) (h : evIndexAddr P T st x ix k) :
    ∃ sv v, (Instr.indexAt T xv iv).run P w = .ok v w ∧ sv.rep α v ∧ k sv := by
  unfold evIndexAddr at h
  split at h
  · rename_i e c kk z hu
    split at h
    · rename_i o i n hl
      split at h
      · rename_i m ct s hst hs
        split at h
        · rename_i hms
          have hms : m = s := by simpa using hms
          obtain ⟨h1, h⟩ := need_iff.1 h
          obtain ⟨h2, h⟩ := need_iff.1 h
          have h1 : 0 ≤ z := by simpa using h1
          have h2 : z < n := by simpa using h2
          obtain ⟨so, d, _, _, hd, _, hdm, _⟩ := hR.rowsG hst
          obtain ⟨d0, a, cp, hd0, rfl, ha⟩ := SC.list_val hR hx hl
          rw [hd] at hd0; cases hd0
          obtain rfl := ha (by omega)
          simp only [SA.rep, SC.val?, Option.some.injEq] at hi
          subst hi
          refine ⟨_, .pointer (some ⟨d.blk, d.off + i * d.m + z.toNat * s, none⟩), ?_, ?_, atElem_spec h⟩
          · simp [Instr.indexAt, asIntOf, run_under hu, h1, h2, run_size hs, addr_add]
          · simp only [SV.rep, SA.rep, SC.val?, hd, Nat.add_zero]
            rw [hdm, hms, Nat.add_mul]
            simp [Nat.add_assoc]
        · exact h.elim
      · exact h.elim
    · exact h.elim
  · rename_i len e o i j kk z hu
    split at h
    · rename_i wb mk T' m ct s hst hs
      obtain ⟨d, hd, hg⟩ := hR.good o _ hst
      have hdm : d.m = m := hg.1
      simp only [SA.rep, SC.val?, hd, Option.some.injEq] at hx hi
      subst hx; subst hi
      have run : ∀ (h1 : 0 ≤ z) (h2 : z < len), (Instr.indexAt T (.pointer (some ⟨d.blk, d.off + i * d.m + j, none⟩)) (.int kk z)).run P w = .ok (.pointer (some ⟨d.blk, d.off + i * d.m + j + z.toNat * s, none⟩)) w := by
        intro h1 h2
        simp [Instr.indexAt, asIntOf, run_under hu, Instr.sureAddr, h1, h2, run_size hs, addr_add]
      split at h
      · rename_i hmj
        have hmj : m = s ∧ j = 0 := by simpa using hmj
        obtain ⟨h1, h⟩ := need_iff.1 h
        obtain ⟨h2, h⟩ := need_iff.1 h
        refine ⟨_, _, run (by simpa using h1) (by simpa using h2), ?_, atElem_spec h⟩
        simp only [SV.rep, SA.rep, SC.val?, hd, hmj.2, Nat.add_zero]
        rw [hdm, hmj.1, Nat.add_mul]
        simp [Nat.add_assoc]
      · obtain ⟨h1, h⟩ := need_iff.1 h
        obtain ⟨h2, h⟩ := need_iff.1 h
        refine ⟨_, _, run (by simpa using h1) (by simpa using h2), ?_, h⟩
        simp only [SV.rep, SA.rep, SC.val?, hd]
        simp [Nat.add_assoc]
    · exact h.elim
  · exact h.elim
theorem evIndex_sound {T : TypeId} {x ix : SA} {xv iv : Value} {k : SV → Prop} (hx : x.rep α xv) (hi : ix.rep α iv) (h : evIndex P T x ix k) :
    ∃ sv v, (Instr.index T xv iv).run P w = .ok v w ∧ sv.rep α v ∧ k sv := by
  unfold evIndex at h
  split at h
  · rename_i len e l kk z hu
    split at h
    · rename_i s hs
      obtain ⟨h1, h⟩ := need_iff.1 h
      obtain ⟨h2, h⟩ := need_iff.1 h
      obtain ⟨a, hr, h⟩ := opt_iff.1 h
      have h1 : 0 ≤ z := by simpa using h1
      have h2 : z < len := by simpa using h2
      obtain ⟨vs, hvs, rfl⟩ := hx
      simp only [SA.rep, SC.val?, Option.some.injEq] at hi
      subst hi
      obtain ⟨v, x1, x2⟩ := readAt_agg (w := w) hvs hr
      exact ⟨.sa a, v, by simp [Instr.index, asIntOf, run_under hu, h1, h2, run_size hs, x1], x2, h⟩
    · exact h.elim
  · rename_i s kk z hu
    obtain ⟨h1, h⟩ := need_iff.1 h
    obtain ⟨h2, h⟩ := need_iff.1 h
    have h1 : 0 ≤ z := by simpa using h1
    have h2 : z.toNat < s.size := by simpa using h2
    simp only [SA.rep, SC.val?, Option.some.injEq] at hx hi
    subst hx; subst hi
    refine ⟨.sa (.one (.raw (.int .u8 (getL (0 : UInt8) s.data.toList z.toNat).toNat))), .int .u8 (getL (0 : UInt8) s.data.toList z.toNat).toNat, ?_, rfl, h⟩
    · have hb : s[z.toNat]? = some (getL (0 : UInt8) s.data.toList z.toNat) := by
        rw [getElem?_pos s z.toNat h2, getL_eq, Array.getElem?_toList, Array.getElem?_eq_getElem (show z.toNat < s.data.size from h2)]
        rfl
      simp [Instr.index, asIntOf, run_under hu, h1, hb]
  · exact h.elim
end Go.Ev
