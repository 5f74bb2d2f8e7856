/- Part A of a checked reader of the program form: what it computes on an abstract state is what the model does, in any order of a region. No conditions. -/
import Derived.WalkKit
import Derived.OrdersIn
set_option linter.unusedSimpArgs false
set_option linter.unusedVariables false
/- THE ENGINE, part 1: a symbolic evaluator of the model's code on abstract states. Definitions alone. -/
namespace Go.Ev
open Go

/-- Where an object of the abstract state lies. -/
structure Den where
  blk : Nat
  off : Nat
  m : Nat
  cap : Nat
  val : Value

abbrev Al := Nat → Option Den

/-- One cell. -/
inductive SC where
  | raw (v : Value)
  | ptr (o i j : Nat)
  | sl (o i n : Nat) (c : Option Nat)
  | ref (o : Nat)

/-- A scalar, or the cells of a struct or an array. -/
inductive SA where
  | one (x : SC)
  | agg (l : List SC)

inductive SV where
  | sa (x : SA)
  | tup (l : List SA)

/-- A column of a table: the numbers or the bools that stand at one cell of its rows. -/
inductive Col where
  | ints (k : IntKind) (xs : List Int)
  | bools (xs : List Bool)

inductive Ct where
  | lst (vs : List (List SC))
  | ints (k : IntKind) (xs : List Int)
  | tab (n : Nat) (cs : List Col)

/-- What is known of an object's block: it is just the content; it begins with the content, and what lies behind is nobody's; its cells are known, no more. -/
inductive MK where
  | whole
  | row
  | ext

/-- An entry of a map. -/
structure SE where
  key : Value
  val : SA
  born : Nat

inductive SO where
  | mem (w : Bool) (k : MK) (T : TypeId) (m : Nat) (ct : Ct)
  | clo (f : Fn) (first cap : List SA)
  | mp (wr : Bool) (es : List SE) (clock : Nat)
  | emp (o L : Nat)
  | nul
  | lp (w : Bool) (f : Nat) (fr : List (Option SV)) (ps : List Nat) (a b : Code) (s : Nat) (j : Option Code)

abbrev St := List (Option SO)
abbrev Fr := List (Option SV)

def need (b : Bool) (p : Prop) : Prop := match b with | true => p | false => False
def branch (b : Bool) (p q : Prop) : Prop := match b with | true => p | false => q

def Ct.len : Ct → Nat
  | .lst vs => vs.length
  | .ints _ xs => xs.length
  | .tab n _ => n
def getL {α : Type} (d : α) : List α → Nat → α
  | [], _ => d
  | x :: _, 0 => x
  | _ :: r, n + 1 => getL d r n
def setL {α : Type} : List α → Nat → α → List α
  | [], _, _ => []
  | _ :: r, 0, y => y :: r
  | x :: r, n + 1, y => x :: setL r n y
/-- Just n elements of the list, d behind its end. -/
def fitL {α : Type} (d : α) : Nat → List α → List α
  | 0, _ => []
  | n + 1, [] => d :: fitL d n []
  | n + 1, x :: r => x :: fitL d n r
def Col.at : Col → Nat → SC
  | .ints k xs, i => .raw (.int k (xs.getD i 0))
  | .bools xs, i => .raw (.bool (xs.getD i false))
def colsAt (i : Nat) : List Col → List SC
  | [] => []
  | c :: r => c.at i :: colsAt i r
/-- The column of a table of n rows with row i turned. -/
def Col.set (n i : Nat) : Col → SC → Option Col
  | .ints k xs, .raw (.int k' x) => if k = k' then some (.ints k ((fitL 0 n xs).set i x)) else none
  | .bools xs, .raw (.bool x) => some (.bools ((fitL false n xs).set i x))
  | _, _ => none
/-- The column with one row more. -/
def Col.push (n : Nat) : Col → SC → Option Col
  | .ints k xs, .raw (.int k' x) => if k = k' then some (.ints k (fitL 0 n xs ++ [x])) else none
  | .bools xs, .raw (.bool x) => some (.bools (fitL false n xs ++ [x]))
  | _, _ => none
def zipO (f : Col → SC → Option Col) : List Col → List SC → Option (List Col)
  | [], [] => some []
  | c :: r, e :: es => match f c e, zipO f r es with
    | some c', some r' => some (c' :: r')
    | _, _ => none
  | _, _ => none
def Ct.get : Ct → Nat → List SC
  | .lst vs, i => getL [] vs i
  | .ints k xs, i => [.raw (.int k (xs.getD i 0))]
  | .tab _ cs, i => colsAt i cs
/-- The content with element i turned, if it can be said. -/
def Ct.set : Ct → Nat → List SC → Option Ct
  | .lst vs, i, e => some (.lst (setL vs i e))
  | .ints k xs, i, [.raw (.int k' x)] => if k = k' then some (.ints k (xs.set i x)) else none
  | .tab n cs, i, e => match zipO (Col.set n i) cs e with | some cs' => some (.tab n cs') | none => none
  | _, _, _ => none

def St.get (st : St) (o : Nat) : Option SO := getL none st o
def St.put (st : St) (o : Nat) (so : Option SO) : St := setL st o so

def SA.cells : SA → List SC
  | .one x => [x]
  | .agg l => l

def isCell : Value → Bool
  | .agg _ | .tuple _ => false
  | _ => true
def SC.isCell : SC → Bool
  | .raw v => Ev.isCell v
  | _ => true
def allCells : List SC → Bool
  | [] => true
  | c :: r => match c.isCell with | true => allCells r | false => false

/-- A value of the model as cells, nothing of it tracked. -/
def SA.ofValue : Value → SA
  | .agg cs => .agg (cs.toList.map .raw)
  | v => .one (.raw v)
def SV.ofValue : Value → SV
  | .tuple vs => .tup (vs.toList.map SA.ofValue)
  | v => .sa (SA.ofValue v)

def pureSem {α : Type} (P : Program) : Sem α → Option α
  | .pure a => some a
  | .program k => pureSem P (k P)
  | .mark _ k => pureSem P k
  | _ => none

def opt {α : Type} (x : Option α) (k : α → Prop) : Prop := match x with | some a => k a | none => False

def tIsAgg (P : Program) (t : TypeId) : Option Bool :=
  match P.underlying t with
  | some (.struct _) | some (.array _ _) => some true
  | some _ => some false
  | none => none
def tSize (P : Program) (t : TypeId) : Option Nat := (P.info? t).map (·.size)
def tZero (P : Program) (t : TypeId) : Option Value := (P.info? t).bind (·.zero)

/-- The cells of a part: at j, s of them. -/
def takeL {α : Type} : Nat → List α → List α
  | 0, _ => []
  | _, [] => []
  | n + 1, x :: r => x :: takeL n r
def dropL {α : Type} : Nat → List α → List α
  | 0, l => l
  | _, [] => []
  | n + 1, _ :: r => dropL n r
def splice {α : Type} (l : List α) (j : Nat) (e : List α) : List α := takeL j l ++ e ++ dropL (j + e.length) l
def lenL {α : Type} : List α → Nat
  | [] => 0
  | _ :: r => lenL r + 1

/-- What a variable of type t reads as, in an element's cells, from cell j on. -/
def readAt (P : Program) (t : TypeId) (e : List SC) (j : Nat) : Option SA :=
  match tIsAgg P t, tSize P t with
  | some true, some s => if j + s ≤ lenL e then some (.agg (takeL s (dropL j e))) else none
  | some false, _ => if j < lenL e then some (.one (getL (.raw undef) e j)) else none
  | _, _ => none

structure Cx where
  P : Program
  sum : FuncId → Option (List SA → St → (SV → St → Prop) → Prop)
  loop : FuncId → Nat → Option (List Nat)
  wr : FuncId → Nat
  force : Bool := false

abbrev CallT := FuncId → List SA → St → (SV → St → Prop) → Prop

def unitV : SV := .tup []

def Fr.get (fr : Fr) (t : Nat) : Option SV := getL none fr t
def Fr.put (fr : Fr) (d : Option Nat) (v : SV) : Fr := match d with | some t => setL fr t (some v) | none => fr

def evOperand (fr : Fr) : Operand → Option SV
  | .tmp t => fr.get t
  | .const v => some (SV.ofValue v)
  | .func f => some (.sa (.one (.raw (.func (.func f) #[] #[]))))
  | .global _ => none

def evSA (fr : Fr) (x : Operand) : Option SA :=
  match evOperand fr x with
  | some (.sa a) => some a
  | _ => none

def evSAs (fr : Fr) : List Operand → Option (List SA)
  | [] => some []
  | x :: r => match evSA fr x, evSAs fr r with
    | some a, some l => some (a :: l)
    | _, _ => none

/-- Two operands' comparison where a tracked pointer or slice meets nil. -/
def evNil (st : St) : TypeDesc → SC → SC → Bool
  | .pointer _, .ptr .., .raw (.pointer none) => true
  | .pointer _, .raw (.pointer none), .ptr .. => true
  | .slice _, .sl .., .raw (.slice none _ _) => true
  | .slice _, .ref o, .raw (.slice none _ _) => match st.get o with | some (.emp _ _) => true | _ => false
  | .func _ _ _, .ref o, .raw .nilFunc => match st.get o with | some (.clo _ _ _) => true | _ => false
  | .map _ _, .ref o, .raw (.map none) => match st.get o with | some (.mp _ _ _) => true | _ => false
  | _, _, _ => false

def rawL : List SC → Option (List Value)
  | [] => some []
  | .raw v :: r => match rawL r with | some l => some (v :: l) | none => none
  | _ => none

def evBin (P : Program) (op : BinOp) (T : TypeId) (xo yo : Operand) (st : St) (x y : SA) (k : SV → Prop) : Prop :=
  match x, y with
  | .one (.raw a), .one (.raw b) =>
    match op, a, b with
    | .quo, .int ka x, .int kb y => match decide (ka = kb) with
      | true => need (!decide (y = 0)) (k (.sa (.one (.raw (.int ka (ka.wrap (x.tdiv y)))))))
      | false => False
    | .rem, .int ka x, .int kb y => match decide (ka = kb) with
      | true => need (!decide (y = 0)) (k (.sa (.one (.raw (.int ka (x.tmod y))))))
      | false => False
    | .shl, .int ka x, .int _ y => need (decide (0 ≤ y)) (k (.sa (.one (.raw (.int ka (ka.wrap (x * 2 ^ (min y.toNat ka.bits))))))))
    | .shr, .int ka x, .int _ y => need (decide (0 ≤ y)) (k (.sa (.one (.raw (.int ka (x.fdiv (2 ^ (min y.toNat ka.bits))))))))
    | _, _, _ => opt (pureSem P (do eqGuard op T xo yo a b; binOp op T a b)) fun r => k (.sa (.one (.raw r)))
  | .one a, .one b =>
    match P.underlying T with
    | some d => match evNil st d a b with
      | true => match op with
        | .eql => k (.sa (.one (.raw (.bool false))))
        | .neq => k (.sa (.one (.raw (.bool true))))
        | _ => False
      | false => False
    | none => False
  | .agg a, .agg b =>
    match rawL a, rawL b with
    | some a, some b => opt (pureSem P (do eqGuard op T xo yo (.agg a.toArray) (.agg b.toArray); binOp op T (.agg a.toArray) (.agg b.toArray))) fun r => k (.sa (.one (.raw r)))
    | _, _ => False
  | _, _ => False

/-- A slice's or an array's element's address. -/
def evIndexAddr (P : Program) (T : TypeId) (st : St) (x ix : SA) (k : SV → Prop) : Prop :=
  match P.underlying T, x, ix with
  | some (.slice e), .one (.sl o i n _), .one (.raw (.int _ z)) =>
    match st.get o, tSize P e with
    | some (.mem _ _ _ m _), some s =>
      match decide (m = s) with
      | true => need (decide (0 ≤ z)) (need (decide (z < n)) (k (.sa (.one (.ptr o (i + z.toNat) 0)))))
      | false => False
    | _, _ => False
  | some (.array len e), .one (.ptr o i j), .one (.raw (.int _ z)) =>
    match st.get o, tSize P e with
    | some (.mem _ _ _ m _), some s =>
      match decide (m = s ∧ j = 0) with
      | true => need (decide (0 ≤ z)) (need (decide (z < len)) (k (.sa (.one (.ptr o (i + z.toNat) 0)))))
      | false => need (decide (0 ≤ z)) (need (decide (z < len)) (k (.sa (.one (.ptr o i (j + z.toNat * s))))))
    | _, _ => False
  | _, _, _ => False

def evIndex (P : Program) (T : TypeId) (x ix : SA) (k : SV → Prop) : Prop :=
  match P.underlying T, x, ix with
  | some (.array len e), .agg l, .one (.raw (.int _ z)) =>
    match tSize P e with
    | some s => need (decide (0 ≤ z)) (need (decide (z < len)) (opt (readAt P e l (z.toNat * s)) fun a => k (.sa a)))
    | none => False
  | some .string, .one (.raw (.string s)), .one (.raw (.int _ z)) =>
    need (decide (0 ≤ z)) (need (decide (z.toNat < s.size)) (k (.sa (.one (.raw (.int .u8 (getL (0 : UInt8) s.data.toList z.toNat).toNat))))))
  | _, _, _ => False

/-- The cells of n elements from element i on. -/
def gather (ct : Ct) (i : Nat) : Nat → List SC
  | 0 => []
  | n + 1 => ct.get i ++ gather ct (i + 1) n
/-- Is t an array of elements of m cells (then: how many)? -/
def asRow (P : Program) (T : TypeId) (m : Nat) : Option Nat :=
  match P.underlying T with
  | some (.array n e) => match tSize P e, tSize P T with
    | some s, some z => if s = m ∧ z = n * m then some n else none
    | _, _ => none
  | _ => none
def evLoad (P : Program) (T : TypeId) (st : St) (a : SA) (k : SV → Prop) : Prop :=
  match a with
  | .one (.ptr o i j) =>
    match st.get o with
    | some (.mem _ _ _ m ct) =>
      match asRow P T m, j with
      | some n, 0 => need (decide (i + n ≤ ct.len)) (k (.sa (.agg (gather ct i n))))
      | _, _ => need (decide (i < ct.len)) (opt (readAt P T (ct.get i) j) fun v => k (.sa v))
    | _ => False
  | .one (.ref o) =>
    match st.get o, tIsAgg P T, tSize P T with
    | some .nul, some true, some 0 => k (.sa (.agg []))
    | _, _, _ => False
  | _ => False
/-- The content with elements from i on turned to the cells of l, m each. -/
def scatter (m : Nat) (ct : Ct) (i : Nat) (l : List SC) : Nat → Option Ct
  | 0 => some ct
  | n + 1 => match ct.set i (takeL m l) with
    | some ct' => scatter m ct' (i + 1) (dropL m l) n
    | none => none

def evStore (P : Program) (T : TypeId) (st : St) (a v : SA) (k : St → Prop) : Prop :=
  match a with
  | .one (.ptr o i j) =>
    match st.get o with
    | some (.mem true mk T' m ct) =>
      match mk with
      | .ext => False
      | _ =>
        match tSize P T with
        | some s =>
          match decide (lenL v.cells = s), allCells v.cells with
          | true, true =>
            match asRow P T m, j with
            | some n, 0 => match decide (s = n * m) with
              | true => need (decide (i + n ≤ ct.len)) (opt (scatter m ct i v.cells n) fun ct' => k (st.put o (some (.mem true mk T' m ct'))))
              | false => False
            | _, _ => match decide (j + s ≤ m) with
              | true => need (decide (i < ct.len)) (opt (ct.set i (splice (ct.get i) j v.cells)) fun ct' => k (st.put o (some (.mem true mk T' m ct'))))
              | false => False
          | _, _ => False
        | none => False
    | _ => False
  | .one (.ref o) =>
    match st.get o, tIsAgg P T, tSize P T, v.cells with
    | some .nul, some true, some 0, [] => k st
    | _, _, _, _ => False
  | _ => False

def chunks {α : Type} (m : Nat) : Nat → List α → List (List α)
  | 0, _ => []
  | n + 1, l => takeL m l :: chunks m n (dropL m l)
def evNew (P : Program) (st : St) (T : TypeId) (cells : List SC) (k : SV → St → Prop) : Prop :=
  match allCells cells with
  | true =>
    match P.underlying T with
    | some (.array n e) =>
      match tSize P e with
      | some s => match decide (0 < s ∧ lenL cells = n * s) with
        | true => k (.sa (.one (.ptr (lenL st) 0 0))) (st ++ [some (.mem true .whole T s (.lst (chunks s n cells)))])
        | false => False
      | none => False
    | some _ => match decide (0 < lenL cells) with
      | true => k (.sa (.one (.ptr (lenL st) 0 0))) (st ++ [some (.mem true .whole T (lenL cells) (.lst [cells]))])
      | false => k (.sa (.one (.ref (lenL st)))) (st ++ [some .nul])
    | none => False
  | false => False

/-- The model's 'fill', on cells. -/
def fillL (place : Nat → Option (Nat × Nat)) (cells : List SC) : List (Nat × SA) → Option (List SC)
  | [] => some cells
  | (i, v) :: rest =>
    match place i with
    | none => none
    | some (off, size) =>
      if lenL v.cells = size ∧ off + size ≤ lenL cells ∧ allCells v.cells = true then fillL place (splice cells off v.cells) rest else none

def placesOf (P : Program) : List Field → Option (List (Nat × Nat))
  | [] => some []
  | f :: r => match tSize P f.type, placesOf P r with
    | some s, some l => some ((f.offset, s) :: l)
    | _, _ => none

def evParts (fr : Fr) : List (Nat × Operand) → Option (List (Nat × SA))
  | [] => some []
  | (i, x) :: r => match evSA fr x, evParts fr r with
    | some a, some l => some ((i, a) :: l)
    | _, _ => none

def evBuild (P : Program) (T : TypeId) (parts : List (Nat × SA)) : Option (List SC) :=
  match tZero P T, P.underlying T with
  | some z, some (.struct fs) =>
    match placesOf P fs.toList with
    | some pl => fillL (fun i => pl[i]?) (z.cells.toList.map .raw) parts
    | none => none
  | some z, some (.array _ e) =>
    match tSize P e with
    | some s => fillL (fun i => some (i * s, s)) (z.cells.toList.map .raw) parts
    | none => none
  | _, _ => none

def repL {α : Type} : Nat → α → List α
  | 0, _ => []
  | n + 1, x => x :: repL n x

def fillS (s : Nat) (vs : List (List SC)) : List (Nat × SA) → Option (List (List SC))
  | [] => some vs
  | (i, v) :: rest => if lenL v.cells = s ∧ i < lenL vs ∧ allCells v.cells = true then fillS s (setL vs i v.cells) rest else none

def evBuildSlice (P : Program) (T : TypeId) (len : Nat) (parts : List (Nat × SA)) (st : St) (k : SV → St → Prop) : Prop :=
  match P.underlying T with
  | some (.slice e) =>
    match tZero P e, tSize P e with
    | some z, some s =>
      match decide (0 < s ∧ z.cells.size = s ∧ len * s ≤ 2 ^ 24 ∧ allCells (z.cells.toList.map .raw) = true) with
      | true =>
        opt (fillS s (repL len (z.cells.toList.map .raw)) parts) fun vs =>
          k (.sa (.one (.sl (lenL st) 0 len none))) (st ++ [some (.mem true .whole e s (.lst vs))])
      | false => False
    | _, _ => False
  | _ => False

def evNilCheck : SA → St → Option SA
  | .one (.ptr o i j), _ => some (.one (.ptr o i j))
  | .one (.ref o), st => match st.get o with
    | some (.clo (.func _) _ _) => some (.one (.ref o))
    | some (.lp ..) => some (.one (.ref o))
    | _ => none
  | .one (.raw (.func (.func f) a b)), _ => some (.one (.raw (.func (.func f) a b)))
  | _, _ => none

def evFieldAddr (P : Program) (S : TypeId) (x : SA) (f : Nat) : Option SA :=
  match x, P.underlying S with
  | .one (.ptr o i j), some (.struct fs) =>
    match fs.toList[f]? with
    | some fd => match tSize P fd.type with
      | some (_ + 1) => some (.one (.ptr o i (j + fd.offset)))
      | _ => none
    | none => none
  | _, _ => none

def evField (P : Program) (T : TypeId) (x : SA) (f : Nat) : Option SA :=
  match x, P.underlying T with
  | .agg l, some (.struct fs) =>
    match fs.toList[f]? with
    | some fd => readAt P fd.type l fd.offset
    | none => none
  | _, _ => none

/-- Bounds of a slice expression. -/
def evBound (d : Nat) (x : Option SA) (top : Nat) (k : Nat → Prop) : Prop :=
  match x with
  | none => k d
  | some (.one (.raw (.int _ z))) => need (decide (0 ≤ z)) (need (decide (z ≤ top)) (k z.toNat))
  | _ => False

/-- A part of a slice of object o from element i on, its capacity c known: cut at l, of n elements, with capacity q. -/
def cutKnown (o i c l n q : Nat) (st : St) (k : SV → St → Prop) : Prop :=
  branch (decide (c = l)) (k (.sa (.one (.sl o i 0 (some 0)))) st) (k (.sa (.one (.sl o (i + l) n (some q)))) st)

/-- A slice expression with three indexes. -/
def evSlice3 (P : Program) (T : TypeId) (st : St) (x : SA) (lo : Option SA) (hi mx : SA) (k : SV → St → Prop) : Prop :=
  match P.underlying T, x with
  | some (.slice e), .one (.sl o i _ c) =>
    match st.get o, tSize P e with
    | some (.mem _ mk _ m ct), some s =>
      match decide (m = s), (match mk, c with | .ext, none => false | .row, none => false | _, _ => true) with
      | true, true =>
        evBound 0 (some mx) (c.getD (ct.len - i)) fun mm => evBound 0 (some hi) mm fun h => evBound 0 lo h fun l =>
          need (decide (i + l ≤ ct.len)) (cutKnown o i mm l (h - l) (mm - l) st k)
      | _, _ => False
    | _, _ => False
  | some (.slice e), .one (.raw (.slice none _ c)) =>
    match tSize P e with
    | none => False
    | some _ => evBound 0 (some mx) c fun mm => evBound 0 (some hi) mm fun h => evBound 0 lo h fun l => k (.sa (.one (.raw (.slice none (h - l) (mm - l))))) st
  | _, _ => False

def evSlice (P : Program) (T : TypeId) (st : St) (x : SA) (lo hi : Option SA) (k : SV → St → Prop) : Prop :=
  match P.underlying T, x with
  | some (.slice e), .one (.sl o i n (some c)) =>
    match st.get o, tSize P e with
    | some (.mem _ _ _ m ct), some s =>
      match decide (m = s) with
      | true => evBound n hi c fun h => evBound 0 lo h fun l =>
          need (decide (i + l ≤ ct.len)) (need (decide (h ≤ c)) (cutKnown o i c l (h - l) (c - l) st k))
      | false => False
    | _, _ => False
  | some (.slice e), .one (.sl o i n none) =>
    match st.get o, tSize P e with
    | some (.mem _ mk _ m ct), some s =>
      match decide (m = s), mk with
      | true, .whole => evBound n hi (ct.len - i) fun h => evBound 0 lo h fun l =>
          need (decide (i + h ≤ ct.len))
            (branch (decide (ct.len - i = l)) (k (.sa (.one (.sl o i 0 (some 0)))) st) (k (.sa (.one (.sl o (i + l) (h - l) none))) st))
      | true, .row => evBound n hi (ct.len - i) fun h => evBound 0 lo h fun l =>
          need (decide (i + h ≤ ct.len))
            (branch (decide (l = 0)) (k (.sa (.one (.sl o i h none))) st)
              (branch (decide (i + l < ct.len)) (k (.sa (.one (.sl o (i + l) (h - l) none))) st)
                (k (.sa (.one (.ref (lenL st)))) (st ++ [some (.emp o ct.len)]))))
      | _, _ => False
    | _, _ => False
  | some (.slice e), .one (.raw (.slice none n c)) =>
    match tSize P e with
    | some _ => evBound n hi c fun h => evBound 0 lo h fun l => need (decide (l ≤ h)) (k (.sa (.one (.raw (.slice none (h - l) (c - l))))) st)
    | none => False
  | some .string, .one (.raw (.string s)) =>
    evBound s.size hi s.size fun h => evBound 0 lo h fun l => k (.sa (.one (.raw (.string (s.extract l h))))) st
  | some (.array len e), .one (.ptr o i j) =>
    match st.get o, tSize P e with
    | some (.mem _ _ _ m ct), some s =>
      -- only an array that is laid as a row of its elements can be cut
      match decide (m = s ∧ j = 0) with
      | true => evBound len hi len fun h => evBound 0 lo h fun l =>
          need (decide (i + len ≤ ct.len)) (need (decide (h ≤ len)) (cutKnown o i len l (h - l) (len - l) st k))
      | false => False
    | _, _ => False
  | _, _ => False

end Go.Ev

/- THE ENGINE, part 2: builtins, maps, calls, regions, code. Definitions alone. -/
namespace Go.Ev
open Go

/-! ### contents -/
def Col.drop (i : Nat) : Col → Col
  | .ints k xs => .ints k (xs.drop i)
  | .bools xs => .bools (xs.drop i)
/-- The rows of a table, one behind the other. -/
def pushAll (n : Nat) (cs : List Col) : List (List SC) → Option (List Col)
  | [] => some cs
  | e :: r => match zipO (Col.push n) cs e with | some cs' => pushAll (n + 1) cs' r | none => none
def Col.app (n m : Nat) : Col → Col → Option Col
  | .ints k xs, .ints k' ys => if k = k' then some (.ints k (fitL 0 n xs ++ fitL 0 m ys)) else none
  | .bools xs, .bools ys => some (.bools (fitL false n xs ++ fitL false m ys))
  | _, _ => none
def colsApp (n m : Nat) : List Col → List Col → Option (List Col)
  | [], [] => some []
  | c :: r, e :: es => match c.app n m e, colsApp n m r es with
    | some c', some r' => some (c' :: r')
    | _, _ => none
  | _, _ => none
/-- The rows from i on turned. -/
def setAll (n i : Nat) (cs : List Col) : List (List SC) → Option (List Col)
  | [] => some cs
  | e :: r => match zipO (Col.set n i) cs e with | some cs' => setAll n (i + 1) cs' r | none => none
def Ct.sub : Ct → Nat → Nat → Ct
  | .lst vs, i, n => .lst (takeL n (dropL i vs))
  | .ints k xs, i, n => .ints k ((xs.drop i).take n)
  | .tab _ cs, i, n => .tab n (cs.map (Col.drop i))
def intsOf (k : IntKind) : List (List SC) → Option (List Int)
  | [] => some []
  | [.raw (.int k' x)] :: r => match decide (k = k'), intsOf k r with
    | true, some l => some (x :: l)
    | _, _ => none
  | _ => none
def Ct.app : Ct → Ct → Option Ct
  | .lst a, .lst b => some (.lst (a ++ b))
  | .ints k a, .ints k' b => if k = k' then some (.ints k (a ++ b)) else none
  | .ints k a, .lst b => match intsOf k b with
    | some l => some (.ints k (a ++ l))
    | none => none
  | .lst [], .ints k b => some (.ints k b)
  | .lst [], .tab n b => some (.tab n b)
  | .tab n a, .lst b => match pushAll n a b with | some c => some (.tab (n + lenL b) c) | none => none
  | .tab n a, .tab m b => match colsApp n m a b with | some c => some (.tab (n + m) c) | none => none
  | _, _ => none
/-- The content with the elements from i on turned to the new ones. -/
def Ct.over (ct : Ct) (i : Nat) (new : Ct) : Option Ct :=
  match ct, new with
  | .lst vs, .lst b => some (.lst (takeL i vs ++ b ++ dropL (i + lenL b) vs))
  | .ints k xs, .ints k' b => if k = k' then some (.ints k (xs.take i ++ b ++ xs.drop (i + b.length))) else none
  | .ints k xs, .lst b => match intsOf k b with
    | some l => some (.ints k (xs.take i ++ l ++ xs.drop (i + l.length)))
    | none => none
  | .tab n a, .lst b => match setAll n i a b with | some c => some (.tab n c) | none => none
  | _, _ => none

def rawInts (k : IntKind) (b : List UInt8) : Ct := .ints k (b.map fun x => (x.toNat : Int))

/-- What is appended or copied: its content, elements of s cells. -/
def evSrc (st : St) (s : Nat) (x : SA) (k : Ct → Prop) : Prop :=
  match x with
  | .one (.sl o i n _) =>
    match st.get o with
    | some (.mem _ _ _ m ct) => match decide (m = s) with
      | true => need (decide (i + n ≤ ct.len)) (k (ct.sub i n))
      | false => False
    | _ => False
  | .one (.raw (.slice none 0 _)) => k (.lst [])
  | .one (.ref q) => match st.get q with
    | some (.emp _ _) => k (.lst [])
    | _ => False
  | .one (.raw (.string b)) => match decide (s = 1) with
    | true => k (rawInts .u8 b.data.toList)
    | false => False
  | _ => False

/-- n elements of zero. -/
def zeroCols (n : Nat) : List Value → Option (List Col)
  | [] => some []
  | .int k 0 :: r => match zeroCols n r with | some l => some (.ints k (List.replicate n 0) :: l) | none => none
  | .bool false :: r => match zeroCols n r with | some l => some (.bools (List.replicate n false) :: l) | none => none
  | _ => none
def zeroCt (n : Nat) (z : List Value) : Ct :=
  match z with
  | [.int k 0] => .ints k (List.replicate n 0)
  | z => match zeroCols n z with
    | some cs => .tab n cs
    | none => .lst (repL n (z.map .raw))

def notInt : Option TypeDesc → Bool
  | some (.int _) => false
  | none => false
  | _ => true

def tBytes (P : Program) (t : TypeId) : Option Nat := (P.info? t).map (·.bytes)

/-- append where a new row is made: the elements of old, then the new ones. -/
def evGrown (st : St) (e s bytes n : Nat) (old new : Ct) (k : SV → St → Prop) : Prop :=
  need (decide ((n + new.len) * bytes ≤ 2 ^ 47))
    (opt (old.app new) fun ct' => k (.sa (.one (.sl (lenL st) 0 (n + new.len) none))) (st ++ [some (.mem true .row e s ct')]))

def evPutKnown (w : Bool) (mk : MK) (T' m : Nat) (ct : Ct) (st : St) (o i n c : Nat) (new : Ct) (k : SV → St → Prop) : Prop :=
  match w, mk with
  | true, .whole | true, .row => need (decide (i + n + new.len ≤ ct.len)) (opt (ct.over (i + n) new) fun ct' => k (.sa (.one (.sl o i (n + new.len) (some c)))) (st.put o (some (.mem true mk T' m ct'))))
  | _, _ => False
def evPutEnd (w : Bool) (mk : MK) (T' m : Nat) (ct : Ct) (st : St) (o i n : Nat) (new : Ct) (k : SV → St → Prop) : Prop :=
  match w with
  | true => opt (ct.over (i + n) new) fun ct' => k (.sa (.one (.sl o i (n + new.len) none))) (st.put o (some (.mem true mk T' m ct')))
  | false => need (decide (new.len = 0)) (k (.sa (.one (.sl o i n none))) st)
def evRegrow (w : Bool) (T' e s bytes : Nat) (ct : Ct) (st : St) (o i n : Nat) (new : Ct) (k : SV → St → Prop) : Prop :=
  match w, decide (T' = e) with
  | true, true => need (decide (i + n ≤ ct.len)) (evGrown (st.put o none) e s bytes n (ct.sub i n) new k)
  | _, _ => False

/-- append to a slice of object o, from element i on, of n elements. -/
def evAppendAt (st : St) (e s bytes o i n : Nat) (c : Option Nat) (new : Ct) (k : SV → St → Prop) : Prop :=
  match st.get o with
  | some (.mem w mk T' m ct) =>
    match decide (m = s), c, mk with
    | true, some c, _ =>
      -- a capacity that is known
      need (decide (n ≤ c)) (branch (decide (n + new.len ≤ c))
        (branch (decide (new.len = 0)) (k (.sa (.one (.sl o i n (some c)))) st)
          (evPutKnown w mk T' m ct st o i n c new k))
        (need (decide (i + n ≤ ct.len)) (evGrown st e s bytes n (ct.sub i n) new k)))
    | true, none, .whole =>
      branch (decide (i + n + new.len ≤ ct.len))
        (evPutEnd w .whole T' m ct st o i n new k)
        (need (decide (i + n ≤ ct.len)) (evGrown st e s bytes n (ct.sub i n) new k))
    | true, none, .row =>
      branch (decide (i + n + new.len ≤ ct.len))
        (evPutEnd w .row T' m ct st o i n new k)
        (evRegrow w T' e s bytes ct st o i n new k)
    | _, _, _ => False
  | _ => False

def evAppendWith (e s bytes : Nat) (st : St) (a : SA) (new : Ct) (k : SV → St → Prop) : Prop :=
  match a with
  | .one (.raw (.slice none 0 0)) =>
    branch (decide (new.len = 0)) (k (.sa (.one (.raw (.slice none 0 0)))) st) (evGrown st e s bytes 0 (.lst []) new k)
  | .one (.sl o i n c) => evAppendAt st e s bytes o i n c new k
  | .one (.ref q) => match st.get q with
    | some (.emp o L) => match st.get o with
      | some (.mem true .row T' m ct) => match decide (m = s ∧ T' = e) with
        | true => need (decide (ct.len = L)) (branch (decide (new.len = 0)) (k (.sa (.one (.ref q))) st)
            (evGrown (st.put o none) e s bytes 0 (.lst []) new k))
        | false => False
      | _ => False
    | _ => False
  | _ => False

/-- What is appended: the elements of a slice or a string, or so many zeros. -/
def evMore (P : Program) (T2 : TypeId) (s bytes : Nat) (z : Value) (st : St) (x : SA) (k : Ct → Prop) : Prop :=
  match notInt (P.underlying T2) with
  | true => evSrc st s x k
  | false => match P.underlying T2, x with
    | some (.int _), .one (.raw (.int _ l)) =>
      match allCells (z.cells.toList.map .raw) with
      | true => need (decide (0 ≤ l)) (need (decide (l < 2 ^ 63)) (need (decide (l * bytes ≤ 2 ^ 48)) (k (zeroCt l.toNat z.cells.toList))))
      | false => False
    | _, _ => False

/-- append: T: the slice's type; T2: the second argument's. -/
def evAppend (P : Program) (T T2 : TypeId) (st : St) (a x : SA) (k : SV → St → Prop) : Prop :=
  match P.underlying T with
  | some (.slice e) =>
    match tSize P e, tBytes P e, tZero P e with
    | some s, some bytes, some z =>
      match decide (0 < s ∧ 0 < bytes ∧ z.cells.size = s) with
      | true =>
        evMore P T2 s bytes z st x fun new => evAppendWith e s bytes st a new k
      | false => False
    | _, _, _ => False
  | _ => False

def evLen (P : Program) (T : TypeId) (st : St) (x : SA) (k : SV → Prop) : Prop :=
  match P.underlying T, x with
  | some (.slice _), .one (.sl _ _ n _) => k (.sa (.one (.raw (.int .i64 n))))
  | some (.slice _), .one (.raw (.slice _ n _)) => k (.sa (.one (.raw (.int .i64 n))))
  | some (.slice _), .one (.ref q) => match st.get q with
    | some (.emp _ _) => k (.sa (.one (.raw (.int .i64 0))))
    | _ => False
  | some .string, .one (.raw (.string s)) => k (.sa (.one (.raw (.int .i64 s.size))))
  | some (.array n _), _ => k (.sa (.one (.raw (.int .i64 n))))
  | some (.pointer arr), _ => match P.underlying arr with
    | some (.array n _) => k (.sa (.one (.raw (.int .i64 n))))
    | _ => False
  | some (.map _ _), .one (.raw (.map none)) => k (.sa (.one (.raw (.int .i64 0))))
  | some (.map _ _), .one (.ref o) => match st.get o with
    | some (.mp _ es _) => k (.sa (.one (.raw (.int .i64 (lenL es)))))
    | _ => False
  | _, _ => False

def evCap (P : Program) (T : TypeId) (st : St) (x : SA) (k : SV → Prop) : Prop :=
  match P.underlying T, x with
  | some (.slice _), .one (.sl _ _ _ (some c)) => k (.sa (.one (.raw (.int .i64 c))))
  | some (.slice _), .one (.sl o i _ none) => match st.get o with
    | some (.mem _ .whole _ _ ct) => k (.sa (.one (.raw (.int .i64 ((ct.len - i : Nat) : Int)))))
    | _ => False
  | some (.slice _), .one (.raw (.slice _ _ c)) => k (.sa (.one (.raw (.int .i64 c))))
  | _, _ => False

def evCopyWith (s : Nat) (st : St) (d : SA) (new : Ct) (k : SV → St → Prop) : Prop :=
  match d with
  | .one (.sl o i n _) =>
    match st.get o with
    | some (.mem true mk T' m ct) =>
      match decide (m = s), mk with
      | true, .whole | true, .row => need (decide (i + n ≤ ct.len)) (opt (ct.over i (new.sub 0 (Nat.min new.len n))) fun ct' =>
            k (.sa (.one (.raw (.int .i64 (Nat.min new.len n : Nat))))) (st.put o (some (.mem true mk T' m ct'))))
      | _, _ => False
    | _ => False
  | .one (.raw (.slice none 0 _)) => k (.sa (.one (.raw (.int .i64 0)))) st
  | _ => False

def evCopy (P : Program) (T : TypeId) (st : St) (d x : SA) (k : SV → St → Prop) : Prop :=
  match P.underlying T with
  | some (.slice e) =>
    match tSize P e with
    | some s =>
      evSrc st s x fun new => evCopyWith s st d new k
    | none => False
  | _ => False

/-- clear of a slice -/
def evClear (P : Program) (T : TypeId) (st : St) (x : SA) (k : SV → St → Prop) : Prop :=
  match P.underlying T, x with
  | some (.slice e), .one (.sl o i n _) =>
    match tSize P e, tZero P e, st.get o with
    | some s, some z, some (.mem true mk T' m ct) =>
      match decide (m = s ∧ z.cells.size = s ∧ allCells (z.cells.toList.map .raw) = true), mk with
      | true, .whole | true, .row => need (decide (i + n ≤ ct.len)) (opt (ct.over i (zeroCt n z.cells.toList)) fun ct' =>
          k (.tup []) (st.put o (some (.mem true mk T' m ct'))))
      | _, _ => False
    | _, _, _ => False
  | some (.slice _), .one (.raw (.slice none _ _)) => k (.tup []) st
  | some (.map _ _), .one (.ref o) => match st.get o with
    | some (.mp true _ cl) => k (.tup []) (st.put o (some (.mp true [] cl)))
    | _ => False
  | _, _ => False

/-! ### maps -/
def isNil {α : Type} : List α → Bool
  | [] => true
  | _ :: _ => false
def plainKey : TypeDesc → Bool
  | .int _ | .string | .bool => true
  | _ => false
def evSame (P : Program) (kt : TypeId) (d : TypeDesc) (a b : Value) : Option Bool :=
  match plainKey d with
  | true => Instr.sameNow d a b
  | false => pureSem P (Op.equal kt a b)
def evFind (P : Program) (kt : TypeId) (d : TypeDesc) (x : Value) : List SE → Nat → (Option (Nat × SE) → Prop) → Prop
  | [], _, K => K none
  | e :: es, i, K => match evSame P kt d x e.key with
    | some b => branch b (K (some (i, e))) (evFind P kt d x es (i + 1) K)
    | none => False
def SA.raw? : SA → Option Value
  | .one (.raw v) => some v
  | .one _ => none
  | .agg l => match rawL l with | some vs => some (.agg vs.toArray) | none => none

def okKey (P : Program) (empty : Bool) (kt : TypeId) (x : Value) : Bool :=
  match pureSem P (Instr.checkKey empty 10000 kt x) with | some _ => true | none => false

/-- What a look-up answers. -/
def evFound (z : Value) (ok : Bool) (k : SV → Prop) (r : Option (Nat × SE)) : Prop :=
  match r with
  | some (_, en) => match ok with
    | true => k (.tup [en.val, .one (.raw (.bool true))])
    | false => k (.sa en.val)
  | none => match ok with
    | true => k (.tup [SA.ofValue z, .one (.raw (.bool false))])
    | false => k (.sa (SA.ofValue z))

def evLookup (P : Program) (T : TypeId) (st : St) (m ix : SA) (ok : Bool) (k : SV → Prop) : Prop :=
  match P.underlying T, ix.raw? with
  | some (.map kt e), some x =>
    match tZero P e, P.underlying kt with
    | some z, some d =>
      match m with
      | .one (.raw (.map none)) => match okKey P true kt x with
        | true => evFound z ok k none
        | false => False
      | .one (.ref o) => match st.get o with
        | some (.mp _ es _) => match okKey P (isNil es) kt x with
          | true => evFind P kt d x es 0 (evFound z ok k)
          | false => False
        | _ => False
      | _ => False
    | _, _ => False
  | _, _ => False

def setVal : List SE → Nat → Value → SA → List SE
  | [], _, _, _ => []
  | e :: r, 0, x, v => { e with key := x, val := v } :: r
  | e :: r, n + 1, x, v => e :: setVal r n x v
def setKey : List SE → Nat → Value → List SE
  | [], _, _ => []
  | e :: r, 0, x => { e with key := x } :: r
  | e :: r, n + 1, x => e :: setKey r n x
def eraseAt {α : Type} : List α → Nat → List α
  | [], _ => []
  | _ :: r, 0 => r
  | e :: r, n + 1 => e :: eraseAt r n

/-- Does the entry's key stay as it is put? -/
def evStays (d : TypeDesc) (old x : Value) (p : Prop) : Prop :=
  match plainKey d with
  | true => p
  | false => need (Instr.sameBits 10000 old x) p

def evUpdWith (d : TypeDesc) (x : Value) (v : SA) (es : List SE) (cl : Nat) (st : St) (o : Nat) (r : Option (Nat × SE)) (k : St → Prop) : Prop :=
  match r with
  | some (i, en) => evStays d en.key x (k (st.put o (some (.mp true (setVal es i x v) cl))))
  | none => k (st.put o (some (.mp true (es ++ [{ key := x, val := v, born := cl }]) (cl + 1))))

def evMapUpdate (P : Program) (T : TypeId) (st : St) (m ix v : SA) (k : St → Prop) : Prop :=
  match P.underlying T, ix.raw? with
  | some (.map kt _), some x =>
    match P.underlying kt, m with
    | some d, .one (.ref o) =>
      match st.get o with
      | some (.mp true es cl) => match okKey P false kt x with
        | true => evFind P kt d x es 0 fun r => evUpdWith d x v es cl st o r k
        | false => False
      | _ => False
    | _, _ => False
  | _, _ => False

def evDelWith (es : List SE) (cl : Nat) (st : St) (o : Nat) (r : Option (Nat × SE)) (k : St → Prop) : Prop :=
  match r with
  | some (i, _) => k (st.put o (some (.mp true (eraseAt es i) cl)))
  | none => k st

def evDelete (P : Program) (T : TypeId) (st : St) (m ix : SA) (k : St → Prop) : Prop :=
  match P.underlying T, ix.raw? with
  | some (.map kt _), some x =>
    match P.underlying kt, m with
    | some d, .one (.ref o) =>
      match st.get o with
      | some (.mp true es cl) => match okKey P (isNil es) kt x with
        | true => evFind P kt d x es 0 fun r => evDelWith es cl st o r k
        | false => False
      | _ => False
    | _, _ => False
  | _, _ => False

/-! ### conversions, make -/
def ctInts (k : IntKind) : Ct → Option (List Int)
  | .ints k' xs => if k = k' then some xs else none
  | .lst vs => intsOf k vs
  | .tab _ _ => none
def byteOfInt (n : Int) : UInt8 := UInt8.ofNat n.toNat
def evConvert (P : Program) (T T' : TypeId) (st : St) (x : SA) (k : SV → St → Prop) : Prop :=
  match x with
  | .one (.raw (.string s)) =>
    match P.underlying T, P.underlying T' with
    | some .string, some .string => k (.sa (.one (.raw (.string s)))) st
    | some .string, some (.slice e) => match P.underlying e with
      | some (.int .u8) => k (.sa (.one (.sl (lenL st) 0 s.size none))) (st ++ [some (.mem true .row e 1 (rawInts .u8 s.data.toList))])
      | _ => False
    | _, _ => False
  | .one (.raw v) => opt (pureSem P (convert T T' v)) fun r => k (.sa (.one (.raw r))) st
  | .one (.sl o i n c) =>
    match P.underlying T, P.underlying T' with
    | some (.slice _), some (.slice e) => match decide (T = T'), P.underlying e, st.get o with
      | true, some (.int .u8), some (.mem true .whole _ _ _) | true, some (.int .u8), some (.mem true .row _ _ _) => k (.sa (.one (.sl o i n c))) st
      | _, _, _ => False
    | some (.slice e), some .string => match P.underlying e, st.get o with
      | some (.int .u8), some (.mem _ _ _ m ct) => match decide (m = 1) with
        | true => need (decide (i + n ≤ ct.len)) (opt (ctInts .u8 (ct.sub i n)) fun l => k (.sa (.one (.raw (.string ⟨(l.map byteOfInt).toArray⟩)))) st)
        | false => False
      | _, _ => False
    | _, _ => False
  | _ => False

def evMakeSlice (P : Program) (T : TypeId) (st : St) (l c : SA) (k : SV → St → Prop) : Prop :=
  match P.underlying T, l, c with
  | some (.slice e), .one (.raw (.int _ l)), .one (.raw (.int _ c)) =>
    match tZero P e, tSize P e, tBytes P e with
    | some z, some s, some bytes =>
      match decide (0 < s ∧ z.cells.size = s ∧ allCells (z.cells.toList.map .raw) = true) with
      | true => need (decide (0 ≤ l)) (need (decide (l ≤ c)) (need (decide (c * bytes ≤ 2 ^ 47)) (need (decide (c < 2 ^ 63))
          (k (.sa (.one (.sl (lenL st) 0 l.toNat none))) (st ++ [some (.mem true .whole e s (zeroCt c.toNat z.cells.toList))])))))
      | false => False
    | _, _, _ => False
  | _, _, _ => False

def evEntryWith (d : TypeDesc) (x z : Value) (es : List SE) (cl : Nat) (st : St) (o : Nat) (r : Option (Nat × SE)) (k : SV → St → Prop) : Prop :=
  match r with
  | some (i, en) => evStays d en.key x (k (.tup [en.val, .one (.raw (.int .i64 en.born))]) (st.put o (some (.mp true (setKey es i x) cl))))
  | none => k (.tup [SA.ofValue z, .one (.raw (.int .i64 cl))]) (st.put o (some (.mp true (es ++ [{ key := x, val := SA.ofValue z, born := cl }]) (cl + 1))))

def evMapEntry (P : Program) (T : TypeId) (st : St) (m ix : SA) (k : SV → St → Prop) : Prop :=
  match P.underlying T, ix.raw? with
  | some (.map kt e), some x =>
    match P.underlying kt, m, tZero P e with
    | some d, .one (.ref o), some z =>
      match st.get o with
      | some (.mp true es cl) => match okKey P false kt x with
        | true => evFind P kt d x es 0 fun r => evEntryWith d x z es cl st o r k
        | false => False
      | _ => False
    | _, _, _ => False
  | _, _ => False
def setBorn : List SE → Int → SA → Option (List SE)
  | [], _, _ => none
  | e :: r, b, v => match decide ((e.born : Int) = b) with
    | true => some ({ e with val := v } :: r)
    | false => match setBorn r b v with | some l => some (e :: l) | none => none
def evEntryStore (st : St) (m s v : SA) (k : St → Prop) : Prop :=
  match m, s with
  | .one (.ref o), .one (.raw (.int _ b)) => match st.get o with
    | some (.mp true es cl) => match setBorn es b v with
      | some es' => k (st.put o (some (.mp true es' cl)))
      | none => False
    | _ => False
  | _, _ => False

/-! ### one operation -/
def rhoSA (ρ : Operand → Option SV) (x : Operand) : Option SA := match ρ x with | some (.sa a) => some a | _ => none
def rhoSAs (ρ : Operand → Option SV) : List Operand → Option (List SA)
  | [] => some []
  | x :: r => match rhoSA ρ x, rhoSAs ρ r with
    | some a, some l => some (a :: l)
    | _, _ => none
def rhoParts (ρ : Operand → Option SV) : List (Nat × Operand) → Option (List (Nat × SA))
  | [] => some []
  | p :: r => match rhoSA ρ p.2, rhoParts ρ r with
    | some a, some l => some ((p.1, a) :: l)
    | _, _ => none
def rhoOpt (ρ : Operand → Option SV) : Option Operand → Option (Option SA)
  | none => some none
  | some x => match rhoSA ρ x with | some a => some (some a) | none => none

def undefV : SV := .tup []
def rawAll : List SA → Option (List Value)
  | [] => some []
  | .one (.raw v) :: r => match rawAll r with | some l => some (v :: l) | none => none
  | _ => none

def evBuiltin (P : Program) (b : Builtin) (ts : List TypeId) (T : TypeId) (args : List SA) (st : St) (k : SV → St → Prop) : Prop :=
  match b, ts, args with
  | .len, [t], [x] => evLen P t st x fun v => k v st
  | .cap, [t], [x] => evCap P t st x fun v => k v st
  | .append, [t, t2], [a, x] => evAppend P t t2 st a x k
  | .copy, t :: _, [d, x] => evCopy P t st d x k
  | .clear, [t], [x] => evClear P t st x k
  | .delete, t :: _, [m, x] => evDelete P t st m x fun st' => k (.tup []) st'
  | .min, _, _ => opt (rawAll args) fun vs => opt (pureSem P (Builtin.min_ #[] T vs.toArray)) fun r => k (.sa (.one (.raw r))) st
  | .max, _, _ => opt (rawAll args) fun vs => opt (pureSem P (Builtin.max_ #[] T vs.toArray)) fun r => k (.sa (.one (.raw r))) st
  | _, _, _ => False

/-- From here on the number of a call is that of a loop's record: a call of its yield. -/
def big : Nat := 1000000
def evCallee (call : CallT) (f : SA) (args : List SA) (st : St) (k : SV → St → Prop) : Prop :=
  match f with
  | .one (.raw (.func (.func g) first cap)) => match Nat.blt g big with
    | true => call g (first.toList.map SA.ofValue ++ args ++ cap.toList.map SA.ofValue) st k
    | false => False
  | .one (.ref o) => match st.get o with
    | some (.clo (.func g) first cap) => match Nat.blt g big with
      | true => call g (first ++ args ++ cap) st k
      | false => False
    | some (.lp ..) => call (big + o) args st k
    | _ => False
  | _ => False

def evPick (x y : Option SV) (st : St) (cv : SA) (k : SV → St → Prop) : Prop :=
  match cv with
  | .one (.raw (.bool t)) => branch t (opt x fun v => k v st) (opt y fun v => k v st)
  | _ => False
def evUn (P : Program) (op : UnOp) (st : St) (a : SA) (k : SV → St → Prop) : Prop :=
  match a with
  | .one (.raw v) => opt (pureSem P (Op.unary op v)) fun r => k (.sa (.one (.raw r))) st
  | _ => False
def evMakeMap (P : Program) (T : TypeId) (st : St) (a : SA) (k : SV → St → Prop) : Prop :=
  match P.underlying T, a with
  | some (.map _ _), .one (.raw (.int _ _)) => k (.sa (.one (.ref (lenL st)))) (st ++ [some (.mp true [] 0)])
  | _, _ => False
def evSliceMax (P : Program) (T : TypeId) (st : St) (a : SA) (l : Option SA) (h : Option SA) (z : SA) (k : SV → St → Prop) : Prop :=
  match h with
  | some h => evSlice3 P T st a l h z k
  | none => False

def evOp (cx : Cx) (call : CallT) (ρ : Operand → Option SV) (st : St) (o : Oper) (k : SV → St → Prop) : Prop :=
  let P := cx.P
  match o.op with
  | .move x | .assign x => opt (ρ x) fun v => k v st
  | .pick c a b => opt (rhoSA ρ c) fun cv => evPick (ρ a) (ρ b) st cv k
  | .alloc T => opt (tZero P T) fun z => evNew P st T (z.cells.toList.map .raw) k
  | .box T x => opt (rhoSA ρ x) fun a => evNew P st T a.cells k
  | .build T ps => opt (rhoParts ρ ps.toList) fun parts => opt (evBuild P T parts) fun cs => k (.sa (.agg cs)) st
  | .buildSlice T n ps => opt (rhoParts ρ ps.toList) fun parts => evBuildSlice P T n parts st k
  | .load T x => opt (rhoSA ρ x) fun a => evLoad P T st a fun v => k v st
  | .store T x y => opt (rhoSA ρ x) fun a => opt (rhoSA ρ y) fun v => evStore P T st a v fun st' => k undefV st'
  | .nilCheck x => opt (rhoSA ρ x) fun a => opt (evNilCheck a st) fun b => k (.sa b) st
  | .binOp op T x y _ => opt (rhoSA ρ x) fun a => opt (rhoSA ρ y) fun b => evBin P op T x y st a b fun v => k v st
  | .unOp op _ x => opt (rhoSA ρ x) fun a => evUn P op st a k
  | .convert T T' x => opt (rhoSA ρ x) fun a => evConvert P T T' st a k
  | .makeFunc fn first cap => opt (rhoSAs ρ first.toList) fun fs => opt (rhoSAs ρ cap.toList) fun cs =>
      k (.sa (.one (.ref (lenL st)))) (st ++ [some (.clo fn fs cs)])
  | .makeMap T r => match r with
    | none => k (.sa (.one (.ref (lenL st)))) (st ++ [some (.mp true [] 0)])
    | some x => opt (rhoSA ρ x) fun a => evMakeMap P T st a k
  | .slice T x lo hi mx => match mx with
    | none => opt (rhoSA ρ x) fun a => opt (rhoOpt ρ lo) fun l => opt (rhoOpt ρ hi) fun h => evSlice P T st a l h k
    | some y => opt (rhoSA ρ x) fun a => opt (rhoOpt ρ lo) fun l => opt (rhoOpt ρ hi) fun h => opt (rhoSA ρ y) fun z => evSliceMax P T st a l h z k
  | .fieldAddr S x f => opt (rhoSA ρ x) fun a => opt (evFieldAddr P S a f) fun b => k (.sa b) st
  | .field T x f => opt (rhoSA ρ x) fun a => opt (evField P T a f) fun b => k (.sa b) st
  | .indexAddr T x ix => opt (rhoSA ρ x) fun a => opt (rhoSA ρ ix) fun i => evIndexAddr P T st a i fun v => k v st
  | .index T x ix => opt (rhoSA ρ x) fun a => opt (rhoSA ρ ix) fun i => evIndex P T a i fun v => k v st
  | .lookup T x ix ok => opt (rhoSA ρ x) fun a => opt (rhoSA ρ ix) fun i => evLookup P T st a i ok fun v => k v st
  | .mapUpdate T m x v => opt (rhoSA ρ m) fun a => opt (rhoSA ρ x) fun i => opt (rhoSA ρ v) fun b => evMapUpdate P T st a i b fun st' => k undefV st'
  | .mapEntry T m x => opt (rhoSA ρ m) fun a => opt (rhoSA ρ x) fun i => evMapEntry P T st a i k
  | .entryStore _ m s v => opt (rhoSA ρ m) fun a => opt (rhoSA ρ s) fun i => opt (rhoSA ρ v) fun b => evEntryStore st a i b fun st' => k undefV st'
  | .makeSlice T l c => opt (rhoSA ρ l) fun a => opt (rhoSA ρ c) fun b => evMakeSlice P T st a b k
  | .extract x i => match ρ x with
    | some (.tup l) => opt l[i]? fun a => k (.sa a) st
    | _ => False
  | .call c => match c.callee with
    | .builtin b => opt (rhoSAs ρ c.args.toList) fun args => evBuiltin P b c.argTypes.toList o.type args st k
    | .value f => opt (rhoSA ρ f) fun fv => opt (rhoSAs ρ c.args.toList) fun args => evCallee call fv args st k
    | .invoke _ _ => False
  | _ => False

/-! ### regions -/
/-- The guard of an operation: the frame is handed on with what the guard's bool is known to be. -/
def evGuard (ops : List Oper) (o : Oper) (fr : Fr) (run skip : Fr → Prop) : Prop :=
  match o.guard with
  | none => run fr
  | some (j, want) =>
    match ops[j]? with
    | none => skip fr
    | some oj => match oj.dst with
      | none => skip fr
      | some d => match fr.get d with
        | some (.sa (.one (.raw (.bool b)))) => match want with
          | true => branch b (run (fr.put (some d) (.sa (.one (.raw (.bool true)))))) (skip (fr.put (some d) (.sa (.one (.raw (.bool false))))))
          | false => branch b (skip (fr.put (some d) (.sa (.one (.raw (.bool true)))))) (run (fr.put (some d) (.sa (.one (.raw (.bool false))))))
        | some (.tup []) => skip fr
        | _ => False

/-- A number worked out before it is handed on. -/
def forceN (n : Nat) (k : Nat → Prop) : Prop := Nat.rec (k 0) (fun m _ => k (Nat.succ m)) n
def forceI (x : Int) (k : Int → Prop) : Prop := match x with
  | .ofNat n => forceN n fun n => k (.ofNat n)
  | .negSucc n => forceN n fun n => k (.negSucc n)
def forceV (b : Bool) (v : SV) (k : SV → Prop) : Prop := match b with
  | true => match v with
    | .sa (.one (.raw (.int kk x))) => forceI x fun x => k (.sa (.one (.raw (.int kk x))))
    | v => k v
  | false => k v

def evOps (cx : Cx) (call : CallT) (all : List Oper) : List Oper → Fr → St → (Fr → St → Prop) → Prop
  | [], fr, st, k => k fr st
  | o :: r, fr, st, k => evGuard all o fr
      (fun fr => evOp cx call (evOperand fr) st o fun v st' => forceV cx.force v fun v => evOps cx call all r (fr.put o.dst v) st' k)
      (fun fr => evOps cx call all r (fr.put o.dst undefV) st k)

/-! #### regions that draw their order -/
def SC.refs : SC → List Nat
  | .raw _ => []
  | .ptr o _ _ | .sl o _ _ _ | .ref o => [o]
def refsL : List SC → List Nat
  | [] => []
  | c :: r => c.refs ++ refsL r
def SA.refs : SA → List Nat
  | .one c => c.refs
  | .agg l => refsL l
def refsA : List SA → List Nat
  | [] => []
  | a :: r => a.refs ++ refsA r
def SV.refs : SV → List Nat
  | .sa a => a.refs
  | .tup l => refsA l
def refsLL : List (List SC) → List Nat
  | [] => []
  | l :: r => refsL l ++ refsLL r
def refsE : List SE → List Nat
  | [] => []
  | e :: r => e.val.refs ++ refsE r
def frRefs : Fr → List Nat
  | [] => []
  | none :: r => frRefs r
  | some v :: r => v.refs ++ frRefs r
def SO.refs : SO → List Nat
  | .mem _ _ _ _ (.lst vs) => refsLL vs
  | .mem _ _ _ _ _ => []
  | .emp o _ => [o]
  | .nul => []
  | .clo _ a b => refsA a ++ refsA b
  | .mp _ es _ => refsE es
  | .lp _ _ fr _ _ _ _ _ => frRefs fr
def hasN (n : Nat) : List Nat → Bool
  | [] => false
  | m :: r => match Nat.beq n m with | true => true | false => hasN n r

/-- What can be reached from the work list. -/
def reach (st : St) : Nat → List Nat → List Nat → List Nat
  | 0, _, acc => acc
  | _, [], acc => acc
  | n + 1, o :: r, acc => match hasN o acc with
    | true => reach st n r acc
    | false => match st.get o with
      | some so => reach st n (so.refs ++ r) (acc ++ [o])
      | none => reach st n r (acc ++ [o])

def opRefs (ρ : Operand → Option SV) : List Operand → List Nat
  | [] => []
  | x :: r => match ρ x with
    | some v => v.refs ++ opRefs ρ r
    | none => opRefs ρ r

/-- The objects that an operation may read, and those that it may write. -/
def touch (cx : Cx) (ρ : Operand → Option SV) (st : St) (o : Oper) : List Nat × List Nat :=
  match o.op with
  | .load _ x | .nilCheck x | .indexAddr _ x _ | .slice _ x _ _ _ | .lookup _ x _ _ => (opRefs ρ [x], [])
  | .convert T T' x => match decide (T = T') with | true => ([], opRefs ρ [x]) | false => (opRefs ρ [x], [])
  | .binOp _ _ x y _ => (opRefs ρ [x, y], [])
  | .store _ x _ => ([], opRefs ρ [x])
  | .mapUpdate _ m _ _ | .mapEntry _ m _ | .entryStore _ m _ _ => ([], opRefs ρ [m])
  | .call c => match c.callee with
    | .builtin .append => (opRefs ρ (c.args.toList.drop 1), opRefs ρ (c.args.toList.take 1))
    | .builtin .copy => (opRefs ρ (c.args.toList.drop 1), opRefs ρ (c.args.toList.take 1))
    | .builtin .delete | .builtin .clear => ([], opRefs ρ (c.args.toList.take 1))
    | .builtin _ => (opRefs ρ c.args.toList, [])
    | .value f => match ρ f with
      | some (.sa (.one (.raw (.func (.func g) _ _)))) =>
        let r := reach st 1000 (opRefs ρ c.args.toList) []
        match cx.wr g with | 0 => (r, []) | 1 => (r, opRefs ρ c.args.toList) | _ => ([], r)
      | some (.sa (.one (.ref q))) => match st.get q with
        | some (.clo (.func g) x y) =>
          let r := reach st 1000 (q :: opRefs ρ c.args.toList) []
          match cx.wr g with | 0 => (r, []) | 1 => (r, refsA x ++ (opRefs ρ c.args.toList ++ refsA y)) | _ => ([], r)
        | some (.lp ..) => ([], reach st 1000 (q :: opRefs ρ c.args.toList) [])
        | _ => ([], [])
      | _ => ([], [])
    | _ => ([], [])
  | _ => ([], [])

def SO.asRo : SO → SO
  | .mem _ k T m ct => .mem false k T m ct
  | .mp _ es cl => .mp false es cl
  | .lp _ f fr ps a b s j => .lp false f fr ps a b s j
  | so => so
/-- The state with nothing but the touched objects in it; what is only read cannot be written. -/
def restrict (rd wr : List Nat) : Nat → St → St
  | _, [] => []
  | i, x :: r => (match hasN i wr with
      | true => x
      | false => match hasN i rd with
        | true => x.map SO.asRo
        | false => none) :: restrict rd wr (i + 1) r
/-- The state with the written objects, and the new ones, of the other. -/
def mergeS (wr : List Nat) : Nat → St → St → St
  | _, [], s => s
  | i, x :: r, s => (match hasN i wr with
      | true => getL none s 0
      | false => x) :: mergeS wr (i + 1) r (dropL 1 s)

/-- No reference beyond n. -/
def belowL (n : Nat) : List Nat → Bool
  | [] => true
  | o :: r => match Nat.blt o n with | true => belowL n r | false => false
def belowS (n : Nat) : St → Bool
  | [] => true
  | none :: r => belowS n r
  | some so :: r => match belowL n so.refs with | true => belowS n r | false => false

structure Rec where
  rd : List Nat
  wr : List Nat

def meets : List Nat → List Nat → Bool
  | [], _ => false
  | o :: r, l => match hasN o l with | true => true | false => meets r l
/-- May the two not be exchanged, by what they touch? -/
def Rec.clash (a b : Rec) : Bool := meets a.wr b.rd || meets a.wr b.wr || meets b.wr a.rd

/-- For each operation those that are surely ahead of it. -/
def ancestors (ops : List Oper) : List (List Nat) → List (List Nat)
  | acc => match ops with
    | [] => acc
    | o :: r => ancestors r (acc ++ [o.after.toList.flatMap fun e => if Region.binds .any e then e.on :: getL [] acc e.on else []])

/-- The temporaries that an operation looks at. -/
def looks (ops : List Oper) (o : Oper) : List Nat :=
  (o.op.operands.toList.filterMap fun | .tmp t => some t | _ => none) ++
  (match o.guard with
    | some (j, _) => (match ops[j]? with | some oj => oj.dst.toList | none => [])
    | none => [])

/-- Do the temporaries of the two let them be exchanged? (one sees what the other writes, or both write one) -/
def tmpClash (ops : List Oper) (x y : Oper) : Bool :=
  meets x.dst.toList (looks ops y) || meets x.dst.toList y.dst.toList || meets y.dst.toList (looks ops x)

def pairsOk (anc : List (List Nat)) (ops : List Oper) (x : Oper) (rx : Rec) (i : Nat) : List Oper → List Rec → Nat → Bool
  | y :: ys, ry :: rs, j =>
    match (tmpClash ops x y || rx.clash ry) && !hasN i (getL [] anc j) with
    | true => false
    | false => pairsOk anc ops x rx i ys rs (j + 1)
  | _, _, _ => true
def allPairs (anc : List (List Nat)) (ops : List Oper) : List Oper → List Rec → Nat → Bool
  | x :: xs, rx :: rs, i => match pairsOk anc ops x rx i xs rs (i + 1) with
    | true => allPairs anc ops xs rs (i + 1)
    | false => false
  | _, _, _ => true
/-- Edges go back. -/
def edgesBack : List Oper → Nat → Bool
  | [], _ => true
  | o :: r, i => (o.after.toList.all fun e => !Region.binds .any e || Nat.blt e.on i) && edgesBack r (i + 1)
def logOk (ops : List Oper) (log : List Rec) : Bool :=
  edgesBack ops 0 && allPairs (ancestors ops []) ops ops log 0

def upFrom (i : Nat) : Nat → List Nat
  | 0 => []
  | n + 1 => i :: upFrom (i + 1) n

def evDraw (cx : Cx) (call : CallT) (all : List Oper) : List Oper → Fr → St → List Rec → (Fr → St → Prop) → Prop
  | [], fr, st, log, k => match logOk all log with | true => k fr st | false => False
  | o :: r, fr, st, log, k => evGuard all o fr
      (fun fr =>
        let t := touch cx (evOperand fr) st o
        let loc := restrict t.1 t.2 0 st
        match belowL (lenL st) (opRefs (evOperand fr) o.op.operands.toList) && belowS (lenL st) loc with
        | true => evOp cx call (evOperand fr) loc o fun v loc' => forceV cx.force v fun v =>
            evDraw cx call all r (fr.put o.dst v) (mergeS t.2 0 st loc') (log ++ [⟨t.1, t.2 ++ upFrom (lenL st) (lenL loc' - lenL st)⟩]) k
        | false => False)
      (fun fr => evDraw cx call all r (fr.put o.dst undefV) st (log ++ [⟨[], []⟩]) k)

/-! ### code -/
def Code.key : Code → Option Nat
  | .region id _ _ => some id
  | .seq a b => match Code.key a with | some n => some n | none => Code.key b
  | .cond _ a b => match Code.key a with | some n => some n | none => Code.key b
  | .block _ c => Code.key c
  | .loop c => Code.key c
  | _ => none

/-- The results of a function, off its frame. -/
def evResults (P : Program) (st : St) (fr : Fr) : List ResultVar → (List SA → Prop) → Prop
  | [], k => k []
  | .tmp t :: r, k => match fr.get t with
    | some (.sa a) => evResults P st fr r fun l => k (a :: l)
    | _ => False
  | .cell t T :: r, k => match fr.get t with
    | some (.sa a) => evLoad P T st a fun v => match v with
      | .sa b => evResults P st fr r fun l => k (b :: l)
      | _ => False
    | _ => False

def resultV : List SA → SV
  | [a] => .sa a
  | l => .tup l

/-! collecting at a return -/
def ren (n0 : Nat) (live : List Nat) (o : Nat) : Option Nat :=
  match Nat.blt o n0 with
  | true => some o
  | false => (idx o live 0).map (n0 + ·)
  where idx (o : Nat) : List Nat → Nat → Option Nat
  | [], _ => none
  | x :: r, i => match Nat.beq x o with | true => some i | false => idx o r (i + 1)
def SC.ren (f : Nat → Option Nat) : SC → Option SC
  | .raw v => some (.raw v)
  | .ptr o i j => (f o).map fun o' => .ptr o' i j
  | .sl o i n c => (f o).map fun o' => .sl o' i n c
  | .ref o => (f o).map fun o' => .ref o'
def mapO {α β : Type} (g : α → Option β) : List α → Option (List β)
  | [] => some []
  | x :: r => match g x, mapO g r with
    | some y, some l => some (y :: l)
    | _, _ => none
def SA.ren (f : Nat → Option Nat) : SA → Option SA
  | .one c => (c.ren f).map .one
  | .agg l => (mapO (SC.ren f) l).map .agg
def SV.ren (f : Nat → Option Nat) : SV → Option SV
  | .sa a => (a.ren f).map .sa
  | .tup l => (mapO (SA.ren f) l).map .tup
def OV.ren (f : Nat → Option Nat) : Option SV → Option (Option SV)
  | none => some none
  | some v => (v.ren f).map some
def SO.ren (f : Nat → Option Nat) : SO → Option SO
  | .mem w k T m (.lst vs) => (mapO (mapO (SC.ren f)) vs).map fun vs' => .mem w k T m (.lst vs')
  | .mem w k T m ct => some (.mem w k T m ct)
  | .emp o L => (f o).map fun o' => .emp o' L
  | .nul => some .nul
  | .clo fn a b => match mapO (SA.ren f) a, mapO (SA.ren f) b with
    | some a', some b' => some (.clo fn a' b')
    | _, _ => none
  | .mp w es cl => (mapO (fun e => (e.val.ren f).map fun v => { e with val := v }) es).map fun es' => .mp w es' cl
  | .lp w g fr ps a b s j => (mapO (OV.ren f) fr).map fun fr' => .lp w g fr' ps a b s j
def OO.ren (f : Nat → Option Nat) : Option SO → Option (Option SO)
  | none => some none
  | some so => match so.refs with
    | [] => some (some so)
    | _ => (so.ren f).map some

def oldRefs : St → Nat → List Nat
  | _, 0 => []
  | [], _ => []
  | none :: r, n + 1 => oldRefs r n
  | some so :: r, n + 1 => so.refs ++ oldRefs r n
def dropOld (n0 : Nat) : List Nat → List Nat
  | [] => []
  | o :: r => match Nat.blt o n0 with | true => dropOld n0 r | false => o :: dropOld n0 r

/-- What can be reached of the new ones. -/
def reachNew (n0 : Nat) (st : St) : Nat → List Nat → List Nat → List Nat
  | 0, _, acc => acc
  | _, [], acc => acc
  | n + 1, o :: r, acc => match hasN o acc with
    | true => reachNew n0 st n r acc
    | false => match st.get o with
      | some so => reachNew n0 st n (dropOld n0 so.refs ++ r) (acc ++ [o])
      | none => reachNew n0 st n r (acc ++ [o])

/-- Behind a call: the new objects that nobody has any more are let go, and the others get the next numbers. -/
def collect (n0 : Nat) (v : SV) (st : St) (k : SV → St → Prop) : Prop :=
  match Nat.beq (lenL st) n0 with
  | true => k v st
  | false =>
    let live := reachNew n0 st 10000 (dropOld n0 (v.refs ++ oldRefs st n0)) []
    match v.ren (ren n0 live), mapO (OO.ren (ren n0 live)) (takeL n0 st ++ live.map st.get) with
    | some v', some st' => k v' st'
    | _, _ => False

def frame0 (n : Nat) (args : List SA) : Fr := args.map (fun a => some (.sa a)) ++ repL (n - lenL args) (some undefV)

/-! a summary is asked on the part of the state that the arguments lead to -/
/-- What can be reached from the work list, each once. -/
def reachAll (st : St) : Nat → List Nat → List Nat → List Nat
  | 0, _, acc => acc
  | _, [], acc => acc
  | n + 1, o :: r, acc => match hasN o acc with
    | true => reachAll st n r acc
    | false => match Nat.blt o (lenL st) with
      | false => reachAll st n r acc
      | true => match st.get o with
        | some so => reachAll st n (so.refs ++ r) (acc ++ [o])
        | none => reachAll st n r (acc ++ [o])
/-- The way back from the part: the old ones to their numbers, the new ones behind the L that were there. -/
def back (objs : List Nat) (m L o : Nat) : Option Nat :=
  match Nat.blt o m with
  | true => some (getL 0 objs o)
  | false => some (L + (o - m))
/-- The state with the part's objects laid back. -/
def putBack (objs : List Nat) (loc : St) : Nat → St → St
  | _, [] => []
  | i, x :: r => (match ren 0 objs i with
    | some j => getL none loc j
    | none => x) :: putBack objs loc (i + 1) r
def onPart (s : List SA → St → (SV → St → Prop) → Prop) (args : List SA) (st : St) (k : SV → St → Prop) : Prop :=
  let objs := reachAll st 10000 (refsA args) []
  match mapO (SA.ren (ren 0 objs)) args, mapO (OO.ren (ren 0 objs)) (objs.map st.get) with
  | some args', some loc => s args' loc fun v loc' =>
    match v.ren (back objs (lenL objs) (lenL st)), mapO (OO.ren (back objs (lenL objs) (lenL st))) loc' with
    | some v', some loc2 => k v' (putBack objs loc2 0 st ++ dropL (lenL objs) loc2)
    | _, _ => False
  | _, _ => False

abbrev RunT := Nat → FuncId → Code → Fr → St → (Exit → Fr → St → Prop) → Prop

/-- What comes behind a part of the code: run, if it ended as usual. -/
def kSeq (run : Fr → St → (Exit → Fr → St → Prop) → Prop) (k : Exit → Fr → St → Prop) : Exit → Fr → St → Prop := fun ex fr st => match ex with
  | .normal => run fr st k
  | ex => k ex fr st
def kBlock (id : Nat) (k : Exit → Fr → St → Prop) : Exit → Fr → St → Prop := fun ex fr st => match ex with
  | .exit id' => match Nat.beq id' id with
    | true => k .normal fr st
    | false => k (.exit id') fr st
  | ex => k ex fr st
/-- What comes behind a scope: no jump out of it. -/
def kScope (k : Exit → Fr → St → Prop) : Exit → Fr → St → Prop := fun ex fr st => match ex with
  | .goto _ => False
  | ex => k ex fr st
/-- What comes behind a function's code. -/
def kRet (P : Program) (rs : List ResultVar) (n0 : Nat) (k : SV → St → Prop) : Exit → Fr → St → Prop := fun ex fr st => match ex with
  | .normal | .ret => evResults P st fr rs fun l => collect n0 (resultV l) st k
  | _ => False

/-! a round of a range over a function -/
def setPs : Fr → List Nat → List SA → Option Fr
  | fr, [], [] => some fr
  | fr, p :: ps, a :: as => setPs (setL fr p (some (.sa a))) ps as
  | _, _, _ => none
def noneB : Option Code → Bool
  | none => true
  | some _ => false
def stAfter : Bool → Nat
  | true => 0
  | false => 2
/-- Behind a round: the record is ready, or done, with the jump that is left. -/
def endRound (q n0 : Nat) (j : Option Code) (st : St) (k : SV → St → Prop) : Prop :=
  match st.get q with
  | some (.lp true f fr ps a b 1 _) => collect n0 (.sa (.one (.raw (.bool (noneB j))))) (st.put q (some (.lp true f fr ps a b (stAfter (noneB j)) j))) k
  | _ => False
def kRound (q n0 : Nat) (k : SV → St → Prop) : Exit → Fr → St → Prop := fun ex _ st => match ex with
  | .normal => endRound q n0 none st k
  | .ret => endRound q n0 (some .ret) st k
  | .exit id => endRound q n0 (some (.exit id)) st k
  | _ => False
/-- Behind the assignments to the loop's left sides: the record is busy. -/
def kAssign (run : RunT) (q n0 f : Nat) (b : Code) (k : SV → St → Prop) : Exit → Fr → St → Prop := fun ex fr st => match ex with
  | .normal => match st.get q with
    | some (.lp true f2 fr2 ps a2 b2 0 j) => run n0 (f + big) b fr (st.put q (some (.lp true f2 fr2 ps a2 b2 1 j))) (kRound q n0 k)
    | _ => False
  | _ => False
def evRound (run : RunT) (q : Nat) (args : List SA) (st : St) (k : SV → St → Prop) : Prop :=
  match st.get q with
  | some (.lp true f fr ps a b 0 _) => opt (setPs fr ps args) fun fr1 => run (lenL st) (f + big) a fr1 st (kAssign run q (lenL st) f b k)
  | _ => False

def evCall (cx : Cx) (run : RunT) (g : FuncId) (args : List SA) (st : St)
    (k : SV → St → Prop) : Prop :=
  match Nat.blt g big with
  | false => evRound run (g - big) args st k
  | true => match cx.P.funcs[g]? with
    | some fn => match fn.body with
      | some c => match cx.sum g with
        | some s => onPart s args st k
        | none => run (lenL st) g c (frame0 fn.ntmps args) st (kRet cx.P fn.results.toList (lenL st) k)
      | none => False
    | none => False

/-- The function that is ranged over, called. -/
def evIter (call : CallT) (f : SA) (args : List SA) (st : St) (k : SV → St → Prop) : Prop :=
  match f with
  | .one (.raw (.func (.func g) first cap)) => match Nat.blt g big with
    | true => call g (first.toList.map SA.ofValue ++ args ++ cap.toList.map SA.ofValue) st k
    | false => False
  | .one (.ref o) => match st.get o with
    | some (.clo (.func g) first cap) => match Nat.blt g big with
      | true => call g (first ++ args ++ cap) st k
      | false => False
    | _ => False
  | _ => False

/-- Behind the call of the function that was ranged over: the jump that a round has left, if any. -/
def kRange (run : RunT) (n0 : Nat) (f : FuncId) (q : Nat) (fr : Fr) (k : Exit → Fr → St → Prop) : SV → St → Prop := fun _ st =>
  match st.get q with
  | some (.lp true f' fr' ps a b s j) => match Nat.beq s 1 with
    | true => False
    | false => match j with
      | none => k .normal fr (st.put q (some (.lp true f' fr' ps a b 3 none)))
      | some c => run n0 f c fr (st.put q (some (.lp true f' fr' ps a b 3 (some c)))) k
  | _ => False

/-! the head of a loop: what is not looked at any more is let go -/
def again (p : Prop) : Prop := p
def keepL (live : List Nat) : Nat → Fr → Fr
  | _, [] => []
  | i, x :: r => (match hasN i live with | true => x | false => none) :: keepL live (i + 1) r
/-- A row's content as numbers or as a table, where it is one. -/
def colsOf : List SC → Option (List Col)
  | [] => some []
  | .raw (.int k x) :: r => match colsOf r with | some l => some (.ints k [x] :: l) | none => none
  | .raw (.bool x) :: r => match colsOf r with | some l => some (.bools [x] :: l) | none => none
  | _ => none
def Ct.canon : Ct → Ct
  | .lst ([.raw (.int k x)] :: r) => match intsOf k r with | some l => .ints k (x :: l) | none => .lst ([.raw (.int k x)] :: r)
  | .lst (e :: r) => match colsOf e with
    | some cs => match pushAll 1 cs r with | some cs' => .tab (1 + lenL r) cs' | none => .lst (e :: r)
    | none => .lst (e :: r)
  | ct => ct
def OO.canon : Option SO → Option SO
  | some (.mem w .row T m ct) => some (.mem w .row T m ct.canon)
  | x => x
def mapL {α β : Type} (f : α → β) : List α → List β
  | [] => []
  | x :: r => f x :: mapL f r
def forget (n0 : Nat) (live : List Nat) (fr : Fr) (st : St) (K : Fr → St → Prop) : Prop :=
  let fr1 := keepL live 0 fr
  let objs := reachNew n0 st 10000 (dropOld n0 (frRefs fr1 ++ oldRefs st n0)) []
  match mapO (OV.ren (ren n0 objs)) fr1, mapO (OO.ren (ren n0 objs)) (takeL n0 st ++ objs.map st.get) with
  | some fr', some st' => K fr' (mapL OO.canon st')
  | _, _ => False
def atHead (cx : Cx) (f : FuncId) (c : Code) (n0 : Nat) (fr : Fr) (st : St) (K : Fr → St → Prop) : Prop :=
  match Code.key c with
  | some i => match cx.loop f i with
    | some live => forget n0 live fr st K
    | none => K fr st
  | none => K fr st

/-- Code, the parts of it and the calls run by what is given. -/
def evStep (cx : Cx) (run : RunT) : RunT := fun n0 f c fr st k =>
    match c with
    | .skip | .label _ => k .normal fr st
    | .exit id => k (.exit id) fr st
    | .ret => k .ret fr st
    | .region _ ops draw => match draw with
      | true => evDraw cx (evCall cx run) ops.toList ops.toList fr st [] fun fr st => k .normal fr st
      | false => evOps cx (evCall cx run) ops.toList ops.toList fr st fun fr st => k .normal fr st
    | .seq a b => run n0 f a fr st (kSeq (run n0 f b) k)
    | .cond o a b => match o with
      | .tmp t => match fr.get t with
        | some (.sa (.one (.raw (.bool x)))) => branch x (run n0 f a (fr.put (some t) (.sa (.one (.raw (.bool true))))) st k)
            (run n0 f b (fr.put (some t) (.sa (.one (.raw (.bool false))))) st k)
        | _ => False
      | .const (.bool x) => branch x (run n0 f a fr st k) (run n0 f b fr st k)
      | _ => False
    | .block id c => run n0 f c fr st (kBlock id k)
    | .scope c => run n0 f c fr st (kScope k)
    | .loop c => again (atHead cx f c n0 fr st fun fr st => run n0 f c fr st (kSeq (run n0 f (.loop c)) k))
    | .rangeFunc g ps a b => match Nat.blt f big with
      | true => opt (evSA fr g) fun gv =>
          evIter (evCall cx run) gv [.one (.ref (lenL st))] (st ++ [some (.lp true f fr ps.toList a b 0 none)]) (kRange run n0 f (lenL st) fr k)
      | false => False
    | _ => False
def evNone : RunT := fun _ _ _ _ _ _ => False
noncomputable def ev (cx : Cx) (n : Nat) : RunT := Nat.rec evNone (fun _ r => evStep cx r) n

end Go.Ev

/- THE ENGINE, part 3: what an abstract state says of a world. -/
namespace Go.Ev
open Go

/-! ### the lists -/
@[simp] theorem lenL_eq {α : Type} (l : List α) : lenL l = l.length := by induction l <;> simp_all [lenL]
@[simp] theorem getL_eq {α : Type} (d : α) (l : List α) (i : Nat) : getL d l i = l[i]?.getD d := by
  induction l generalizing i with
  | nil => cases i <;> rfl
  | cons x r ih => cases i <;> simp [getL, ih]
@[simp] theorem setL_eq {α : Type} (l : List α) (i : Nat) (x : α) : setL l i x = l.set i x := by
  induction l generalizing i with
  | nil => cases i <;> rfl
  | cons y r ih => cases i <;> simp [setL, ih]
@[simp] theorem takeL_eq {α : Type} (n : Nat) (l : List α) : takeL n l = l.take n := by
  induction n generalizing l with
  | zero => simp [takeL]
  | succ n ih => cases l <;> simp [takeL, ih]
@[simp] theorem dropL_eq {α : Type} (n : Nat) (l : List α) : dropL n l = l.drop n := by
  induction n generalizing l with
  | zero => simp [dropL]
  | succ n ih => cases l <;> simp [dropL, ih]
@[simp] theorem repL_eq {α : Type} (n : Nat) (x : α) : repL n x = List.replicate n x := by
  induction n <;> simp_all [repL, List.replicate]

theorem forceN_eq (n : Nat) (k : Nat → Prop) : forceN n k = k n := by cases n <;> rfl
theorem forceI_eq (x : Int) (k : Int → Prop) : forceI x k = k x := by cases x <;> simp only [forceI, forceN_eq]
theorem forceV_eq (b : Bool) (v : SV) (k : SV → Prop) : forceV b v k = k v := by
  unfold forceV
  split
  · split
    · exact forceI_eq _ _
    · rfl
  · rfl

/-! ### what a symbol stands for -/
def SC.val? (α : Al) : SC → Option Value
  | .raw v => some v
  | .ptr o i j => match α o with
    | some d => some (.pointer (some ⟨d.blk, d.off + i * d.m + j, none⟩))
    | none => none
  | .sl o i n c => match α o with
    | some d => some (.slice (some ⟨d.blk, d.off + i * d.m, none⟩) n (c.getD (d.cap - i)))
    | none => none
  | .ref o => match α o with
    | some d => some d.val
    | none => none

def Reps (α : Al) : List SC → List Value → Prop
  | [], [] => True
  | c :: l, v :: vs => c.val? α = some v ∧ Reps α l vs
  | _, _ => False

def SA.rep (α : Al) : SA → Value → Prop
  | .one c, v => c.val? α = some v
  | .agg l, v => ∃ vs, Reps α l vs ∧ v = .agg vs.toArray

def RepsA (α : Al) : List SA → List Value → Prop
  | [], [] => True
  | c :: l, v :: vs => c.rep α v ∧ RepsA α l vs
  | _, _ => False

def SV.rep (α : Al) : SV → Value → Prop
  | .sa a, v => a.rep α v
  | .tup l, v => ∃ vs, RepsA α l vs ∧ v = .tuple vs.toArray

def Al.le (α β : Al) : Prop := ∀ o d, α o = some d → β o = some d
theorem Al.le.refl (α : Al) : α.le α := fun _ _ h => h

theorem SC.val?_mono {α β : Al} (h : α.le β) {c : SC} {v : Value} (e : c.val? α = some v) : c.val? β = some v := by
  cases c <;> simp only [SC.val?] at e ⊢
  · exact e
  all_goals
    split at e
    · rename_i d hd; rw [h _ _ hd]; exact e
    · simp at e
theorem Reps.mono {α β : Al} (h : α.le β) : ∀ {l : List SC} {vs : List Value}, Reps α l vs → Reps β l vs
  | [], [], _ => trivial
  | _ :: _, _ :: _, e => ⟨SC.val?_mono h e.1, Reps.mono h e.2⟩
  | [], _ :: _, e => e.elim
  | _ :: _, [], e => e.elim
theorem SA.rep_mono {α β : Al} (h : α.le β) {a : SA} {v : Value} (e : a.rep α v) : a.rep β v := by
  cases a with
  | one c => exact SC.val?_mono h e
  | agg l => obtain ⟨vs, r, e⟩ := e; exact ⟨vs, r.mono h, e⟩
theorem RepsA.mono {α β : Al} (h : α.le β) : ∀ {l : List SA} {vs : List Value}, RepsA α l vs → RepsA β l vs
  | [], [], _ => trivial
  | _ :: _, _ :: _, e => ⟨SA.rep_mono h e.1, RepsA.mono h e.2⟩
  | [], _ :: _, e => e.elim
  | _ :: _, [], e => e.elim
theorem SV.rep_mono {α β : Al} (h : α.le β) {a : SV} {v : Value} (e : a.rep α v) : a.rep β v := by
  cases a with
  | sa c => exact SA.rep_mono h e
  | tup l => obtain ⟨vs, r, e⟩ := e; exact ⟨vs, r.mono h, e⟩

theorem Reps.length {α : Al} : ∀ {l : List SC} {vs : List Value}, Reps α l vs → vs.length = l.length
  | [], [], _ => rfl
  | _ :: _, _ :: _, e => by simp [Reps.length e.2]
  | [], _ :: _, e => e.elim
  | _ :: _, [], e => e.elim
theorem Reps.get {α : Al} : ∀ {l : List SC} {vs : List Value}, Reps α l vs → ∀ {i : Nat} {c : SC}, l[i]? = some c → ∃ v, vs[i]? = some v ∧ c.val? α = some v
  | [], [], _, _, _, h => by simp at h
  | c :: l, v :: vs, e, 0, _, h => by simp at h; subst h; exact ⟨v, rfl, e.1⟩
  | c :: l, v :: vs, e, i + 1, _, h => by simp at h; simpa using Reps.get e.2 h
  | [], _ :: _, e, _, _, _ => e.elim
  | _ :: _, [], e, _, _, _ => e.elim
theorem Reps.mk {α : Al} : ∀ {l : List SC} {vs : List Value}, vs.length = l.length → (∀ (i : Nat) (c : SC), l[i]? = some c → ∃ v, vs[i]? = some v ∧ c.val? α = some v) → Reps α l vs
  | [], [], _, _ => trivial
  | c :: l, v :: vs, hl, h => by
    refine ⟨?_, Reps.mk (by simpa using hl) fun i c hc => ?_⟩
    · obtain ⟨v', h1, h2⟩ := h 0 c rfl
      simp at h1; subst h1; exact h2
    · simpa using h (i + 1) c (by simpa using hc)
  | [], _ :: _, h, _ => by simp at h
  | _ :: _, [], h, _ => by simp at h
theorem Reps.append {α : Al} {l l' : List SC} {vs vs' : List Value} (h : Reps α l vs) (h' : Reps α l' vs') : Reps α (l ++ l') (vs ++ vs') := by
  induction l generalizing vs with
  | nil => cases vs with | nil => simpa using h' | cons _ _ => exact h.elim
  | cons c l ih => cases vs with
    | nil => exact h.elim
    | cons v vs => exact ⟨h.1, ih h.2⟩
theorem Reps.take {α : Al} {l : List SC} {vs : List Value} (h : Reps α l vs) (n : Nat) : Reps α (l.take n) (vs.take n) := by
  induction l generalizing vs n with
  | nil => cases vs with | nil => simp [Reps] | cons _ _ => exact h.elim
  | cons c l ih => cases vs with
    | nil => exact h.elim
    | cons v vs => cases n with | zero => simp [Reps] | succ n => exact ⟨h.1, ih h.2 n⟩
theorem Reps.drop {α : Al} {l : List SC} {vs : List Value} (h : Reps α l vs) (n : Nat) : Reps α (l.drop n) (vs.drop n) := by
  induction l generalizing vs n with
  | nil => cases vs with | nil => simp [Reps] | cons _ _ => exact h.elim
  | cons c l ih => cases vs with
    | nil => exact h.elim
    | cons v vs => cases n with | zero => simpa using ⟨h.1, h.2⟩ | succ n => simpa using ih h.2 n
theorem Reps.raw {α : Al} (vs : List Value) : Reps α (vs.map .raw) vs := by
  induction vs with
  | nil => trivial
  | cons v vs ih => exact ⟨rfl, ih⟩
theorem RepsA.length {α : Al} : ∀ {l : List SA} {vs : List Value}, RepsA α l vs → vs.length = l.length
  | [], [], _ => rfl
  | _ :: _, _ :: _, e => by simp [RepsA.length e.2]
  | [], _ :: _, e => e.elim
  | _ :: _, [], e => e.elim
theorem RepsA.get {α : Al} : ∀ {l : List SA} {vs : List Value}, RepsA α l vs → ∀ {i : Nat} {c : SA}, l[i]? = some c → ∃ v, vs[i]? = some v ∧ c.rep α v
  | [], [], _, _, _, h => by simp at h
  | c :: l, v :: vs, e, 0, _, h => by simp at h; subst h; exact ⟨v, rfl, e.1⟩
  | c :: l, v :: vs, e, i + 1, _, h => by simp at h; simpa using RepsA.get e.2 h
  | [], _ :: _, e, _, _, _ => e.elim
  | _ :: _, [], e, _, _, _ => e.elim
theorem RepsA.append {α : Al} {l l' : List SA} {vs vs' : List Value} (h : RepsA α l vs) (h' : RepsA α l' vs') : RepsA α (l ++ l') (vs ++ vs') := by
  induction l generalizing vs with
  | nil => cases vs with | nil => simpa using h' | cons _ _ => exact h.elim
  | cons c l ih => cases vs with
    | nil => exact h.elim
    | cons v vs => exact ⟨h.1, ih h.2⟩

theorem SA.rep_cells {α : Al} {a : SA} {v : Value} (h : a.rep α v) (hc : ∀ c, a = .one c → isCell v = true) : Reps α a.cells v.cells.toList := by
  cases a with
  | one c =>
    have hv := hc c rfl
    cases v <;> first | (simp [Ev.isCell] at hv; done) | exact ⟨h, trivial⟩
  | agg l => obtain ⟨vs, r, rfl⟩ := h; simpa [Value.cells, SA.cells] using r

theorem SA.rep_ofValue {α : Al} (v : Value) : (SA.ofValue v).rep α v := by
  cases v <;> first | exact rfl | exact ⟨_, Reps.raw _, by simp⟩
theorem RepsA.ofValues {α : Al} (vs : List Value) : RepsA α (vs.map SA.ofValue) vs := by
  induction vs with
  | nil => trivial
  | cons v vs ih => exact ⟨SA.rep_ofValue v, ih⟩
theorem SV.rep_ofValue {α : Al} (v : Value) : (SV.ofValue v).rep α v := by
  cases v
  case tuple vs => exact ⟨_, RepsA.ofValues _, by simp⟩
  case agg vs => exact SA.rep_ofValue (.agg vs)
  all_goals exact rfl

/-- A tracked symbol is one cell. -/
theorem SC.isCell_val {α : Al} (href : ∀ o d, α o = some d → Ev.isCell d.val = true) {c : SC} {v : Value} (h : c.val? α = some v) (hc : c.isCell = true) : Ev.isCell v = true := by
  cases c with
  | raw u => simp [SC.val?] at h; subst h; exact hc
  | ptr o i j => simp only [SC.val?] at h; split at h <;> simp at h; subst h; rfl
  | sl o i n k => simp only [SC.val?] at h; split at h <;> simp at h; subst h; rfl
  | ref o =>
    simp only [SC.val?] at h
    split at h
    · rename_i d hd; simp at h; subst h; exact href o d hd
    · simp at h

/-! ### what an object says -/
def FrOk (α : Al) (fr : Fr) (tmps : Array Value) : Prop := fr.length = tmps.size ∧ ∀ t sv, fr.get t = some sv → ∃ v, tmps[t]? = some v ∧ SV.rep α sv v

theorem FrOk.mono {α β : Al} {fr : Fr} {tmps : Array Value} (h : α.le β) (hf : FrOk α fr tmps) : FrOk β fr tmps :=
  ⟨hf.1, fun t sv ht => let ⟨v, h1, h2⟩ := hf.2 t sv ht; ⟨v, h1, SV.rep_mono h h2⟩⟩

theorem Fr.get_eq (fr : Fr) (t : Nat) : fr.get t = fr[t]?.getD none := by simp [Fr.get]
/-- The state of a loop's record. -/
def stOf : Nat → LoopState
  | 0 => .ready
  | 1 => .busy
  | 2 => .done
  | _ => .exhausted
def Ct.Cells (α : Al) (ct : Ct) (m : Nat) (g : Nat → Nat → Option Value) : Prop :=
  ∀ i, i < ct.len → (ct.get i).length = m ∧ ∀ j c, (ct.get i)[j]? = some c → ∃ v, c.val? α = some v ∧ g i j = some v ∧ Ev.isCell v = true

def EntsRep (α : Al) : List SE → List MapEntry → Prop
  | [], [] => True
  | e :: l, x :: xs => (x.key = e.key ∧ x.born = e.born ∧ e.val.rep α x.val) ∧ EntsRep α l xs
  | _, _ => False

def fzOk (n : Nat) (fz : Nat × Nat) : Prop := fz = (0, 0) ∨ fz = (n, n + 1)

def Good (α : Al) (w : World) (d : Den) : SO → Prop
  | .mem _ k T m ct => d.m = m ∧ 0 < m ∧
    (match k with
     | .ext => d.blk < w.heap.size ∧ ct.Cells α m fun i j => w.cell? ⟨d.blk, d.off + i * m + j, none⟩
     | k => ∃ (cs : Array Value) (fz : Nat × Nat), w.heap[d.blk]? = some (.cells cs T fz) ∧ fzOk cs.size fz ∧ d.off + d.cap * m = cs.size ∧ ct.len ≤ d.cap ∧ (k = .whole → ct.len = d.cap) ∧
        ct.Cells α m fun i j => cs[d.off + i * m + j]?)
  | .clo f a b => ∃ va vb, RepsA α a va ∧ RepsA α b vb ∧ d.val = .func f va.toArray vb.toArray
  | .emp o L => ∃ e a c, α o = some e ∧ d.val = .slice (some a) 0 c ∧ (c = 0 ∨ (a = ⟨e.blk, e.off + L * e.m, none⟩ ∧ c = e.cap - L))
  | .nul => ∃ a, d.val = .pointer (some a)
  | .mp _ es cl => d.val = .map (some d.blk) ∧ ∃ xs, w.heap[d.blk]? = some (.map xs.toArray cl) ∧ EntsRep α es xs
  | .lp _ _ fr ps a b s j => d.val = .func (.yield d.blk) #[] #[] ∧ ∃ r, w.heap[d.blk]? = some (.loop r) ∧ FrOk α fr r.tmps ∧ r.params = ps.toArray ∧ r.assign = a ∧ r.body = b ∧ r.state = stOf s ∧ r.pending = j

def SO.heapy : SO → Bool
  | .clo .. => false
  | .emp .. => false
  | .nul => false
  | _ => true
def SO.wr : SO → Bool
  | .mem true .whole _ _ _ => true
  | .mem true .row _ _ _ => true
  | .mem _ _ _ _ _ => false
  | .clo .. => false
  | .emp .. => false
  | .nul => false
  | .mp w _ _ => w
  | .lp w _ _ _ _ _ _ _ => w

structure R (α : Al) (st : St) (w : World) : Prop where
  good : ∀ o so, st.get o = some so → ∃ d, α o = some d ∧ Good α w d so
  sep : ∀ o o' so so' d d', o ≠ o' → st.get o = some so → st.get o' = some so' → α o = some d → α o' = some d' → so.heapy = true → so'.heapy = true →
    so.wr = true → d.blk ≠ d'.blk
  none : ∀ o, st.length ≤ o → α o = none
  cell : ∀ o d, α o = some d → Ev.isCell d.val = true

def Wr (α : Al) (st : St) (b : Nat) : Prop := ∃ o so d, st.get o = some so ∧ α o = some d ∧ so.wr = true ∧ d.blk = b

/-! ### steps of states -/
theorem St.get_eq (st : St) (o : Nat) : st.get o = st[o]?.getD none := by simp [St.get]
theorem St.put_eq (st : St) (o : Nat) (so : Option SO) : st.put o so = st.set o so := by simp [St.put]
theorem St.get_lt {st : St} {o : Nat} {so : SO} (h : st.get o = some so) : o < st.length := by
  rw [St.get_eq] at h
  by_cases ho : o < st.length
  · exact ho
  · rw [List.getElem?_eq_none (by omega)] at h; simp at h
theorem St.get_append_lt {st : St} {x : Option SO} {o : Nat} (h : o < st.length) : St.get (st ++ [x]) o = st.get o := by
  simp only [St.get_eq]; rw [List.getElem?_append_left h]
theorem St.get_append_eq (st : St) (x : Option SO) : St.get (st ++ [x]) st.length = x := by
  simp [St.get_eq]
theorem St.get_append {st : St} {x : Option SO} {o : Nat} {so : SO} (h : St.get (st ++ [x]) o = some so) : st.get o = some so ∨ (o = st.length ∧ x = some so) := by
  have hlt := St.get_lt h
  simp at hlt
  by_cases ho : o < st.length
  · rw [St.get_append_lt ho] at h; exact .inl h
  · have : o = st.length := by omega
    subst this; rw [St.get_append_eq] at h; exact .inr ⟨rfl, h⟩
theorem St.get_put_ne {st : St} {o o' : Nat} {x : Option SO} (h : o ≠ o') : (st.put o x).get o' = st.get o' := by
  simp only [St.get_eq, St.put_eq]; rw [List.getElem?_set_ne h]
theorem St.get_put_eq {st : St} {o : Nat} {x : Option SO} (h : o < st.length) : (st.put o x).get o = x := by
  simp only [St.get_eq, St.put_eq]; rw [List.getElem?_set_self h]; rfl
theorem St.length_put (st : St) (o : Nat) (x : Option SO) : (st.put o x).length = st.length := by simp [St.put_eq]

structure To (α : Al) (st : St) (w : World) (α' : Al) (st' : St) (w' : World) : Prop where
  rep : R α' st' w'
  ext : ∀ o, o < st.length → α' o = α o
  len : st.length ≤ st'.length
  old : ∀ o so', o < st.length → st'.get o = some so' → ∃ so, st.get o = some so ∧ so.heapy = so'.heapy ∧ so.wr = so'.wr
  fresh : ∀ o so', st.length ≤ o → st'.get o = some so' → so'.heapy = true → so'.wr = true
  wrs : ∀ b, b < w.heap.size → Wr α' st' b → Wr α st b
  kept : ∀ b, b < w.heap.size → ¬ Wr α st b → w'.heap[b]? = w.heap[b]?
  size : w.heap.size ≤ w'.heap.size
  tape : w'.tape = w.tape
  os : w'.os = w.os
  output : w'.output = w.output

theorem To.le {α α' : Al} {st st' : St} {w w' : World} (hR : R α st w) (h : To α st w α' st' w') : α.le α' := by
  intro o d hd
  by_cases ho : o < st.length
  · rw [h.ext o ho]; exact hd
  · rw [hR.none o (by omega)] at hd; simp at hd

theorem To.refl {α : Al} {st : St} {w : World} (hR : R α st w) : To α st w α st w :=
  ⟨hR, fun _ _ => rfl, Nat.le_refl _, fun _ so' _ h => ⟨so', h, rfl, rfl⟩, fun o _ ho h => by have := St.get_lt h; omega, fun _ _ h => h, fun _ _ _ => rfl, Nat.le_refl _, rfl, rfl, rfl⟩
theorem To.trans {α α' α'' : Al} {st st' st'' : St} {w w' w'' : World} (h : To α st w α' st' w') (h' : To α' st' w' α'' st'' w'') : To α st w α'' st'' w'' :=
  ⟨h'.rep, fun o ho => (h'.ext o (by have := h.len; omega)).trans (h.ext o ho), Nat.le_trans h.len h'.len,
   fun o so'' ho hs => by
     obtain ⟨so', h1, h2, h3⟩ := h'.old o so'' (by have := h.len; omega) hs
     obtain ⟨so, h4, h5, h6⟩ := h.old o so' ho h1
     exact ⟨so, h4, h5.trans h2, h6.trans h3⟩,
   fun o so'' ho hs hh => by
     by_cases hlt : o < st'.length
     · obtain ⟨so', h1, h2, h3⟩ := h'.old o so'' hlt hs
       rw [← h3]; exact h.fresh o so' ho h1 (h2.trans hh)
     · exact h'.fresh o so'' (by omega) hs hh,
   fun b hb hw => h.wrs b hb (h'.wrs b (by have := h.size; omega) hw),
   fun b hb hn => (h'.kept b (by have := h.size; omega) (fun hw => hn (h.wrs b hb hw))).trans (h.kept b hb hn),
   Nat.le_trans h.size h'.size, h'.tape.trans h.tape, h'.os.trans h.os, h'.output.trans h.output⟩

theorem Ct.Cells.mono {α β : Al} (h : α.le β) {ct : Ct} {m : Nat} {g g' : Nat → Nat → Option Value} (hg : ∀ i j v, g i j = some v → g' i j = some v)
    (hc : ct.Cells α m g) : ct.Cells β m g' := fun i hi =>
  ⟨(hc i hi).1, fun j c hj => let ⟨v, h1, h2, h3⟩ := (hc i hi).2 j c hj; ⟨v, SC.val?_mono h h1, hg _ _ _ h2, h3⟩⟩
theorem EntsRep.mono {α β : Al} (h : α.le β) : ∀ {es : List SE} {xs : List MapEntry}, EntsRep α es xs → EntsRep β es xs
  | [], [], _ => trivial
  | _ :: _, _ :: _, e => ⟨⟨e.1.1, e.1.2.1, SA.rep_mono h e.1.2.2⟩, EntsRep.mono h e.2⟩
  | [], _ :: _, e => e.elim
  | _ :: _, [], e => e.elim

theorem cell?_congr {w w' : World} {a : Addr} (h : w'.heap[a.block]? = w.heap[a.block]?) : w'.cell? a = w.cell? a := by
  simp only [World.cell?, h]

/-- What is said of an object hangs on its block alone. -/
theorem Good.congr {α β : Al} (h : α.le β) {w w' : World} {d : Den} {so : SO} (hb : so.heapy = true → w'.heap[d.blk]? = w.heap[d.blk]?) (hs : w.heap.size ≤ w'.heap.size)
    (hg : Good α w d so) : Good β w' d so := by
  cases so with
  | mem wb k T m ct =>
    replace hb := hb rfl
    obtain ⟨h1, h2, h4⟩ := hg
    refine ⟨h1, h2, ?_⟩
    cases k with
    | ext =>
      obtain ⟨h5, h6⟩ := h4
      exact ⟨by omega, h6.mono h fun i j v e => by rw [cell?_congr (w := w) (by exact hb)]; exact e⟩
    | whole =>
      obtain ⟨cs, fz, h5, h6, h7, h8, h9, h10⟩ := h4
      exact ⟨cs, fz, hb.trans h5, h6, h7, h8, h9, h10.mono h fun _ _ _ e => e⟩
    | row =>
      obtain ⟨cs, fz, h5, h6, h7, h8, h9, h10⟩ := h4
      exact ⟨cs, fz, hb.trans h5, h6, h7, h8, h9, h10.mono h fun _ _ _ e => e⟩
  | clo f a b => obtain ⟨va, vb, h1, h2, h3⟩ := hg; exact ⟨va, vb, h1.mono h, h2.mono h, h3⟩
  | emp o L => obtain ⟨e, a, c, h1, h2⟩ := hg; exact ⟨e, a, c, h _ _ h1, h2⟩
  | nul => exact hg
  | mp k es cl => obtain ⟨h1, xs, h2, h3⟩ := hg; exact ⟨h1, xs, (hb rfl).trans h2, h3.mono h⟩
  | lp wb f fr ps a b s j => obtain ⟨h1, r, h2, h3, h4⟩ := hg; exact ⟨h1, r, (hb rfl).trans h2, h3.mono h, h4⟩

theorem Good.lt {α : Al} {w : World} {d : Den} {so : SO} (hg : Good α w d so) (hh : so.heapy = true) : d.blk < w.heap.size := by
  cases so with
  | mem wb k T m ct =>
    obtain ⟨_, _, h4⟩ := hg
    cases k with
    | ext => exact h4.1
    | whole => obtain ⟨cs, fz, h5, _⟩ := h4; exact (Array.getElem?_eq_some_iff.1 h5).1
    | row => obtain ⟨cs, fz, h5, _⟩ := h4; exact (Array.getElem?_eq_some_iff.1 h5).1
  | clo f a b => simp [SO.heapy] at hh
  | emp o L => simp [SO.heapy] at hh
  | nul => simp [SO.heapy] at hh
  | mp k es cl => obtain ⟨_, xs, h2, _⟩ := hg; exact (Array.getElem?_eq_some_iff.1 h2).1
  | lp wb f fr ps a b s j => obtain ⟨_, r, h2, _⟩ := hg; exact (Array.getElem?_eq_some_iff.1 h2).1

theorem SO.wr_heapy {so : SO} (h : so.wr = true) : so.heapy = true := by
  cases so with
  | mem w k T m ct => rfl
  | clo => simp [SO.wr] at h
  | emp => simp [SO.wr] at h
  | nul => simp [SO.wr] at h
  | mp => rfl
  | lp => rfl

/-! ### steps of states, more -/
def Al.add (α : Al) (n : Nat) (d : Den) : Al := fun o => if o = n then some d else α o
theorem Al.add_same {α : Al} {n : Nat} {d : Den} : α.add n d n = some d := by simp [Al.add]
theorem Al.add_other {α : Al} {n o : Nat} {d : Den} (h : o ≠ n) : α.add n d o = α o := by simp [Al.add, h]
theorem Al.le_add {α : Al} {n : Nat} {d : Den} (h : α n = none) : α.le (α.add n d) := by
  intro o e he
  by_cases ho : o = n
  · subst ho; rw [h] at he; simp at he
  · rw [Al.add_other ho]; exact he

theorem Al.cell_add {α : Al} {n : Nat} {d : Den} (h : ∀ o e, α o = some e → Ev.isCell e.val = true) (hd : Ev.isCell d.val = true) :
    ∀ o e, α.add n d o = some e → Ev.isCell e.val = true := by
  intro o e he
  by_cases ho : o = n
  · subst ho; rw [Al.add_same] at he; cases he; exact hd
  · rw [Al.add_other ho] at he; exact h o e he

/-- A world whose count of draws, or the like, has turned. -/
theorem R.congr {α : Al} {st : St} {w w' : World} (h : R α st w) (hh : w'.heap = w.heap) : R α st w' :=
  ⟨fun o so ho => let ⟨d, h1, h2⟩ := h.good o so ho; ⟨d, h1, h2.congr (Al.le.refl _) (fun _ => by rw [hh]) (by rw [hh]; exact Nat.le_refl _)⟩, h.sep, h.none, h.cell⟩
theorem To.of_heap {α : Al} {st : St} {w w' : World} (h : R α st w) (hh : w'.heap = w.heap) (ht : w'.tape = w.tape) (ho : w'.os = w.os) (hp : w'.output = w.output) : To α st w α st w' :=
  ⟨h.congr hh, fun _ _ => rfl, Nat.le_refl _, fun _ so' _ h => ⟨so', h, rfl, rfl⟩, fun o _ ho h => by have := St.get_lt h; omega, fun _ _ h => h, fun _ _ _ => by rw [hh], by rw [hh]; exact Nat.le_refl _, ht, ho, hp⟩
theorem To.drew {α : Al} {st : St} {w : World} (h : R α st w) : To α st w α st w.drew := To.of_heap h rfl rfl rfl rfl

theorem heap_alloc_lt (w : World) (o : Obj) {k : Nat} (h : k < w.heap.size) : (w.alloc o).heap[k]? = w.heap[k]? := RowKit.Below.heap_alloc w o k h
theorem heap_alloc_eq (w : World) (o : Obj) : (w.alloc o).heap[w.heap.size]? = some o := by
  show (w.heap.push o)[w.heap.size]? = _
  simp

theorem St.old_append {st : St} {so : SO} : ∀ o so', o < st.length → St.get (st ++ [some so]) o = some so' → ∃ s, st.get o = some s ∧ s.heapy = so'.heapy ∧ s.wr = so'.wr := by
  intro o so' ho h
  rw [St.get_append_lt ho] at h
  exact ⟨so', h, rfl, rfl⟩
theorem St.new_append {st : St} {so : SO} (hw : so.heapy = true → so.wr = true) : ∀ o so', st.length ≤ o → St.get (st ++ [some so]) o = some so' → so'.heapy = true → so'.wr = true := by
  intro o so' ho h hh
  rcases St.get_append h with h' | ⟨_, e⟩
  · have := St.get_lt h'; omega
  · cases e; exact hw hh

/-- A new object in a new block. -/
theorem To.new {α : Al} {st : St} {w : World} (h : R α st w) {ob : Obj} {so : SO} {d : Den} (hwr : so.heapy = true → so.wr = true) (hd : so.heapy = true → d.blk = w.heap.size) (hcell : Ev.isCell d.val = true)
    (hg : Good (α.add st.length d) (w.alloc ob) d so) : To α st w (α.add st.length d) (st ++ [some so]) (w.alloc ob) := by
  have hn : α st.length = none := h.none _ (Nat.le_refl _)
  have hle := Al.le_add (d := d) hn
  refine ⟨⟨?_, ?_, ?_, Al.cell_add h.cell hcell⟩, ?_, by simp, St.old_append, St.new_append hwr, ?_, fun b hb _ => heap_alloc_lt w ob hb, by simp, rfl, rfl, rfl⟩
  · intro o so' ho
    rcases St.get_append ho with ho' | ⟨rfl, e⟩
    · obtain ⟨d', h1, h2⟩ := h.good o so' ho'
      exact ⟨d', hle _ _ h1, h2.congr hle (fun hh => heap_alloc_lt w ob (h2.lt hh)) (by simp)⟩
    · cases e; exact ⟨d, Al.add_same, hg⟩
  · intro o o' so1 so2 d1 d2 hne h1 h2 e1 e2 hh1 hh2 hw
    rcases St.get_append h1 with h1' | ⟨rfl, x1⟩ <;> rcases St.get_append h2 with h2' | ⟨rfl, x2⟩
    · have a1 : o ≠ st.length := by have := St.get_lt h1'; omega
      have a2 : o' ≠ st.length := by have := St.get_lt h2'; omega
      rw [Al.add_other a1] at e1; rw [Al.add_other a2] at e2
      exact h.sep o o' so1 so2 d1 d2 hne h1' h2' e1 e2 hh1 hh2 hw
    · cases x2
      have a1 : o ≠ st.length := by have := St.get_lt h1'; omega
      rw [Al.add_other a1] at e1
      rw [Al.add_same] at e2; cases e2
      obtain ⟨d', x1, x2⟩ := h.good o so1 h1'
      rw [e1] at x1; cases x1
      have := x2.lt hh1
      rw [hd hh2]; omega
    · cases x1
      have a2 : o' ≠ st.length := by have := St.get_lt h2'; omega
      rw [Al.add_other a2] at e2
      rw [Al.add_same] at e1; cases e1
      obtain ⟨d', x1, x2⟩ := h.good o' so2 h2'
      rw [e2] at x1; cases x1
      have := x2.lt hh2
      rw [hd hh1]; omega
    · exact absurd rfl hne
  · intro o ho
    simp at ho
    rw [Al.add_other (by omega)]; exact h.none o (by omega)
  · intro o ho; exact Al.add_other (by omega)
  · rintro b hb ⟨o, so', d', h1, h2, h3, rfl⟩
    rcases St.get_append h1 with h1' | ⟨rfl, x1⟩
    · have a1 : o ≠ st.length := by have := St.get_lt h1'; omega
      rw [Al.add_other a1] at h2
      exact ⟨o, so', d', h1', h2, h3, rfl⟩
    · cases x1
      rw [Al.add_same] at h2; cases h2
      have := hd (SO.wr_heapy h3)
      omega

/-- A new object that lies nowhere. -/
theorem To.ghost {α : Al} {st : St} {w : World} (h : R α st w) {so : SO} {d : Den} (hd : so.heapy = false) (hcell : Ev.isCell d.val = true)
    (hg : Good (α.add st.length d) w d so) : To α st w (α.add st.length d) (st ++ [some so]) w := by
  have hn : α st.length = none := h.none _ (Nat.le_refl _)
  have hle := Al.le_add (d := d) hn
  have hwr : so.wr = false := by
    cases hw : so.wr with
    | false => rfl
    | true => rw [SO.wr_heapy hw] at hd; simp at hd
  refine ⟨⟨?_, ?_, ?_, Al.cell_add h.cell hcell⟩, ?_, by simp, St.old_append, St.new_append (fun hh => by rw [hd] at hh; simp at hh), ?_, fun b hb _ => rfl, Nat.le_refl _, rfl, rfl, rfl⟩
  · intro o so' ho
    rcases St.get_append ho with ho' | ⟨rfl, e⟩
    · obtain ⟨d', h1, h2⟩ := h.good o so' ho'
      exact ⟨d', hle _ _ h1, h2.congr hle (fun hh => rfl) (Nat.le_refl _)⟩
    · cases e; exact ⟨d, Al.add_same, hg⟩
  · intro o o' so1 so2 d1 d2 hne h1 h2 e1 e2 hh1 hh2 hw
    rcases St.get_append h1 with h1' | ⟨rfl, x1⟩ <;> rcases St.get_append h2 with h2' | ⟨rfl, x2⟩
    · have a1 : o ≠ st.length := by have := St.get_lt h1'; omega
      have a2 : o' ≠ st.length := by have := St.get_lt h2'; omega
      rw [Al.add_other a1] at e1; rw [Al.add_other a2] at e2
      exact h.sep o o' so1 so2 d1 d2 hne h1' h2' e1 e2 hh1 hh2 hw
    · cases x2; rw [hd] at hh2; simp at hh2
    · cases x1; rw [hd] at hh1; simp at hh1
    · exact absurd rfl hne
  · intro o ho
    simp at ho
    rw [Al.add_other (by omega)]; exact h.none o (by omega)
  · intro o ho; exact Al.add_other (by omega)
  · rintro b hb ⟨o, so', d', h1, h2, h3, rfl⟩
    rcases St.get_append h1 with h1' | ⟨rfl, x1⟩
    · have a1 : o ≠ st.length := by have := St.get_lt h1'; omega
      rw [Al.add_other a1] at h2
      exact ⟨o, so', d', h1', h2, h3, rfl⟩
    · cases x1; rw [hwr] at h3; simp at h3

/-- An object's content turned: only its own block has. -/
theorem To.upd {α : Al} {st : St} {w w' : World} (h : R α st w) {o : Nat} {so so' : SO} {d : Den} (ho : st.get o = some so) (hd : α o = some d)
    (hw : so.wr = true) (hw' : so'.wr = true) (hs : w'.heap.size = w.heap.size) (hb : ∀ b, b ≠ d.blk → w'.heap[b]? = w.heap[b]?)
    (ht : w'.tape = w.tape) (hos : w'.os = w.os) (hp : w'.output = w.output) (hg : Good α w' d so') : To α st w α (st.put o (some so')) w' := by
  have hlt := St.get_lt ho
  have key : ∀ o1 so1, (st.put o (some so')).get o1 = some so1 → (o1 = o ∧ so1 = so') ∨ (o1 ≠ o ∧ st.get o1 = some so1) := by
    intro o1 so1 h1
    by_cases e : o1 = o
    · subst e; rw [St.get_put_eq hlt] at h1; cases h1; exact .inl ⟨rfl, rfl⟩
    · rw [St.get_put_ne (fun x => e x.symm)] at h1; exact .inr ⟨e, h1⟩
  refine ⟨⟨?_, ?_, ?_, h.cell⟩, fun _ _ => rfl, by rw [St.length_put]; exact Nat.le_refl _, ?_, ?_, ?_, ?_, by omega, ht, hos, hp⟩
  · intro o1 so1 h1
    rcases key o1 so1 h1 with ⟨rfl, rfl⟩ | ⟨e, h1'⟩
    · exact ⟨d, hd, hg⟩
    · obtain ⟨d1, x1, x2⟩ := h.good o1 so1 h1'
      refine ⟨d1, x1, x2.congr (Al.le.refl _) (fun hh => hb _ ?_) (by omega)⟩
      exact (h.sep o o1 so so1 d d1 (fun x => e x.symm) ho h1' hd x1 (SO.wr_heapy hw) hh hw).symm
  · intro o1 o2 so1 so2 d1 d2 hne h1 h2 e1 e2 hh1 hh2 hwr
    rcases key o1 so1 h1 with ⟨rfl, rfl⟩ | ⟨n1, h1'⟩ <;> rcases key o2 so2 h2 with ⟨rfl, rfl⟩ | ⟨n2, h2'⟩
    · exact absurd rfl hne
    · exact h.sep o1 o2 so so2 d1 d2 hne ho h2' e1 e2 (SO.wr_heapy hw) hh2 hw
    · exact (h.sep o2 o1 so so1 d2 d1 (fun x => hne x.symm) ho h1' e2 e1 (SO.wr_heapy hw) hh1 hw).symm
    · exact h.sep o1 o2 so1 so2 d1 d2 hne h1' h2' e1 e2 hh1 hh2 hwr
  · intro x hx; rw [St.length_put] at hx; exact h.none x hx
  · intro o1 so1 _ h1
    rcases key o1 so1 h1 with ⟨rfl, rfl⟩ | ⟨_, h1'⟩
    · exact ⟨so, ho, by rw [SO.wr_heapy hw, SO.wr_heapy hw'], by rw [hw, hw']⟩
    · exact ⟨so1, h1', rfl, rfl⟩
  · intro o1 so1 hle h1
    have := St.get_lt h1
    rw [St.length_put] at this
    omega
  · rintro b hbl ⟨o1, so1, d1, h1, h2, h3, rfl⟩
    rcases key o1 so1 h1 with ⟨rfl, rfl⟩ | ⟨n1, h1'⟩
    · exact ⟨o1, so, d1, ho, h2, hw, rfl⟩
    · exact ⟨o1, so1, d1, h1', h2, h3, rfl⟩
  · intro b hbl hn
    refine hb b fun e => hn ⟨o, so, d, ho, hd, hw, e.symm⟩

/-- An object forgotten. -/
theorem To.kill {α : Al} {st : St} {w : World} (h : R α st w) (o : Nat) : To α st w α (st.put o none) w := by
  have key : ∀ o1 so1, (st.put o none).get o1 = some so1 → st.get o1 = some so1 := by
    intro o1 so1 h1
    by_cases e : o1 = o
    · subst e
      have hlt := St.get_lt h1
      rw [St.length_put] at hlt
      rw [St.get_put_eq hlt] at h1; simp at h1
    · rw [St.get_put_ne (fun x => e x.symm)] at h1; exact h1
  refine ⟨⟨fun o1 so1 h1 => h.good o1 so1 (key _ _ h1), fun o1 o2 so1 so2 d1 d2 hne h1 h2 => h.sep o1 o2 so1 so2 d1 d2 hne (key _ _ h1) (key _ _ h2), ?_, h.cell⟩,
    fun _ _ => rfl, by rw [St.length_put]; exact Nat.le_refl _, fun o1 so1 _ h1 => ⟨so1, key _ _ h1, rfl, rfl⟩, fun o1 so1 hle h1 => by
      have := St.get_lt h1
      rw [St.length_put] at this
      omega, ?_, fun _ _ _ => rfl, Nat.le_refl _, rfl, rfl, rfl⟩
  · intro x hx; rw [St.length_put] at hx; exact h.none x hx
  · rintro b _ ⟨o1, so1, d1, h1, h2⟩
    exact ⟨o1, so1, d1, key _ _ h1, h2⟩

/-- An object forgotten, and another one in its block. -/
theorem To.regrow {α : Al} {st : St} {w w' : World} (h : R α st w) {o : Nat} {so so' : SO} {d e : Den} (ho : st.get o = some so) (hd : α o = some d)
    (hw : so.wr = true) (hw' : so'.wr = true) (he : e.blk = d.blk) (hcell : Ev.isCell e.val = true) (hs : w'.heap.size = w.heap.size) (hb : ∀ b, b ≠ d.blk → w'.heap[b]? = w.heap[b]?)
    (ht : w'.tape = w.tape) (hos : w'.os = w.os) (hp : w'.output = w.output) (hg : Good (α.add st.length e) w' e so') :
    To α st w (α.add st.length e) (st.put o none ++ [some so']) w' := by
  have hk := (To.kill h o).rep
  have hlen : (st.put o none).length = st.length := St.length_put _ _ _
  have hn : α st.length = none := h.none _ (Nat.le_refl _)
  have hle := Al.le_add (d := e) hn
  have key : ∀ o1 so1, (st.put o none).get o1 = some so1 → o1 ≠ o ∧ st.get o1 = some so1 := by
    intro o1 so1 h1
    by_cases e1 : o1 = o
    · subst e1
      have hlt := St.get_lt h1
      rw [hlen] at hlt
      rw [St.get_put_eq hlt] at h1; simp at h1
    · rw [St.get_put_ne (fun x => e1 x.symm)] at h1; exact ⟨e1, h1⟩
  have apart : ∀ o1 so1 d1, o1 ≠ o → st.get o1 = some so1 → α o1 = some d1 → so1.heapy = true → d1.blk ≠ d.blk := fun o1 so1 d1 hne h1 hd1 hh =>
    (h.sep o o1 so so1 d d1 (fun x => hne x.symm) ho h1 hd hd1 (SO.wr_heapy hw) hh hw).symm
  refine ⟨⟨?_, ?_, ?_, Al.cell_add h.cell hcell⟩, ?_, by simp [hlen], ?_, ?_, ?_, ?_, by omega, ht, hos, hp⟩
  · intro o1 so1 h1
    rcases St.get_append h1 with h1' | ⟨rfl, e1⟩
    · obtain ⟨hne, h1''⟩ := key _ _ h1'
      obtain ⟨d1, x1, x2⟩ := h.good o1 so1 h1''
      exact ⟨d1, hle _ _ x1, x2.congr hle (fun hh => hb _ (apart _ _ _ hne h1'' x1 hh)) (by omega)⟩
    · cases e1; rw [hlen]; exact ⟨e, Al.add_same, hg⟩
  · intro o1 o2 so1 so2 d1 d2 hne h1 h2 e1 e2 hh1 hh2 hwr
    rcases St.get_append h1 with h1' | ⟨rfl, x1⟩ <;> rcases St.get_append h2 with h2' | ⟨rfl, x2⟩
    · have a1 : o1 ≠ st.length := by have := St.get_lt h1'; omega
      have a2 : o2 ≠ st.length := by have := St.get_lt h2'; omega
      rw [Al.add_other a1] at e1; rw [Al.add_other a2] at e2
      exact h.sep o1 o2 so1 so2 d1 d2 hne (key _ _ h1').2 (key _ _ h2').2 e1 e2 hh1 hh2 hwr
    · have a1 : o1 ≠ st.length := by have := St.get_lt h1'; omega
      rw [Al.add_other a1] at e1
      rw [hlen, Al.add_same] at e2; cases e2
      rw [he]
      exact apart _ _ _ (key _ _ h1').1 (key _ _ h1').2 e1 hh1
    · have a2 : o2 ≠ st.length := by have := St.get_lt h2'; omega
      rw [Al.add_other a2] at e2
      rw [hlen, Al.add_same] at e1; cases e1
      rw [he]
      exact (apart _ _ _ (key _ _ h2').1 (key _ _ h2').2 e2 hh2).symm
    · exact absurd rfl hne
  · intro x hx
    simp [hlen] at hx
    rw [Al.add_other (by omega)]; exact h.none x (by omega)
  · intro x hx; exact Al.add_other (by omega)
  · intro o1 so1 hlt h1
    rcases St.get_append h1 with h1' | ⟨rfl, _⟩
    · exact ⟨so1, (key _ _ h1').2, rfl, rfl⟩
    · rw [hlen] at hlt; omega
  · intro o1 so1 hle h1 _
    rcases St.get_append h1 with h1' | ⟨rfl, x1⟩
    · have := St.get_lt h1'; rw [hlen] at this; omega
    · cases x1; exact hw'
  · rintro b hbl ⟨o1, so1, d1, h1, h2, h3, rfl⟩
    rcases St.get_append h1 with h1' | ⟨rfl, x1⟩
    · have a1 : o1 ≠ st.length := by have := St.get_lt h1'; omega
      rw [Al.add_other a1] at h2
      exact ⟨o1, so1, d1, (key _ _ h1').2, h2, h3, rfl⟩
    · rw [hlen, Al.add_same] at h2; cases h2
      exact ⟨o, so, d, ho, hd, hw, he.symm⟩
  · intro b hbl hnw
    exact hb b fun e1 => hnw ⟨o, so, d, ho, hd, hw, e1.symm⟩

end Go.Ev

/- THE ENGINE, part 4: the operations one by one: numbers, loads, stores, new variables. -/
namespace Go.Ev
open Go

theorem need_iff {b : Bool} {p : Prop} : need b p ↔ b = true ∧ p := by cases b <;> simp [need]
theorem branch_or {b : Bool} {p q : Prop} (h : branch b p q) : (b = true ∧ p) ∨ (b = false ∧ q) := by cases b <;> simp_all [branch]
theorem opt_iff {α : Type} {x : Option α} {k : α → Prop} : opt x k ↔ ∃ a, x = some a ∧ k a := by cases x <;> simp [opt]

theorem pureSem_run {α : Type} {P : Program} {s : Sem α} : ∀ {a : α}, pureSem P s = some a → ∀ w, s.run P w = .ok a w := by
  induction s with
  | pure a => intro b h w; simp [pureSem] at h; subst h; rfl
  | program k ih => intro b h w; simp only [pureSem] at h; exact ih P h w
  | mark m k ih => intro b h w; simp only [pureSem] at h; exact ih h w
  | _ => intro b h; simp [pureSem] at h

def Got (P : Program) (α : Al) (st : St) (w : World) (s : Sem Value) (k : SV → St → Prop) : Prop :=
  ∃ v w' α' sv st', s.run P w = .ok v w' ∧ sv.rep α' v ∧ k sv st' ∧ To α st w α' st' w'

theorem Got.pure {P : Program} {α : Al} {st : St} {w : World} {s : Sem Value} {k : SV → St → Prop} {sv : SV} {v : Value} (hR : R α st w) (h : s.run P w = .ok v w)
    (hr : sv.rep α v) (hk : k sv st) : Got P α st w s k := ⟨v, w, α, sv, st, h, hr, hk, To.refl hR⟩

variable {P : Program} {α : Al} {st : St} {w : World}

theorem run_under {t : TypeId} {d : TypeDesc} (h : P.underlying t = some d) (w : World) : (underlying t).run P w = .ok d w := run_underlying h w
theorem run_size {t : TypeId} {s : Nat} (h : tSize P t = some s) (w : World) : (sizeOf t).run P w = .ok s w := by
  unfold tSize at h
  cases hi : P.info? t with
  | none => simp [hi] at h
  | some i => simp [hi] at h; simp [sizeOf, typeInfo, hi, h]
theorem run_zero {t : TypeId} {z : Value} (h : tZero P t = some z) (w : World) : (zeroValue t).run P w = .ok z w := by
  unfold tZero at h
  cases hi : P.info? t with
  | none => simp [hi] at h
  | some i => simp [hi] at h; simp [zeroValue, typeInfo, hi, h]
theorem run_isAgg' {t : TypeId} {b : Bool} (h : tIsAgg P t = some b) (w : World) : (isAgg t).run P w = .ok b w := by
  unfold tIsAgg at h
  cases hi : P.underlying t with
  | none => simp [hi] at h
  | some d =>
    have hu := run_under hi
    cases d <;> simp [hi] at h <;> subst h <;> simp [isAgg, hu]

theorem addr_add (b o i : Nat) : (⟨b, o, none⟩ : Addr).add i = ⟨b, o + i, none⟩ := by unfold Addr.add; split <;> simp_all

/-! ### loads -/
theorem Good.cell {d : Den} {wb : Bool} {k : MK} {T : TypeId} {m : Nat} {ct : Ct} (hg : Good α w d (.mem wb k T m ct)) {i : Nat} (hi : i < ct.len) :
    (ct.get i).length = m ∧ ∀ j c, (ct.get i)[j]? = some c → ∃ v, c.val? α = some v ∧ w.cell? ⟨d.blk, d.off + i * m + j, none⟩ = some v ∧ Ev.isCell v = true := by
  obtain ⟨h1, h2, h4⟩ := hg
  cases k with
  | ext => exact h4.2 i hi
  | whole =>
    obtain ⟨cs, fz, h5, h6, h7, h8, h9, h10⟩ := h4
    refine ⟨(h10 i hi).1, fun j c hj => ?_⟩
    obtain ⟨v, x1, x2, x3⟩ := (h10 i hi).2 j c hj
    exact ⟨v, x1, by simp [World.cell?, h5, x2], x3⟩
  | row =>
    obtain ⟨cs, fz, h5, h6, h7, h8, h9, h10⟩ := h4
    refine ⟨(h10 i hi).1, fun j c hj => ?_⟩
    obtain ⟨v, x1, x2, x3⟩ := (h10 i hi).2 j c hj
    exact ⟨v, x1, by simp [World.cell?, h5, x2], x3⟩

/-- Symbols that stand for what a list of cells from an address on holds. -/
def Held (α : Al) (w : World) (b o : Nat) (l : List SC) : Prop := ∃ vs, Reps α l vs ∧ ∀ j v, vs[j]? = some v → w.cell? ⟨b, o + j, none⟩ = some v

theorem Held.of_cells {b o : Nat} {l : List SC} (h : ∀ j c, l[j]? = some c → ∃ v, c.val? α = some v ∧ w.cell? ⟨b, o + j, none⟩ = some v) : Held α w b o l := by
  induction l generalizing o with
  | nil => exact ⟨[], trivial, by simp⟩
  | cons c l ih =>
    obtain ⟨v, h1, h2⟩ := h 0 c rfl
    obtain ⟨vs, r, hvs⟩ := ih (o := o + 1) fun j c hj => by
      obtain ⟨v, h1, h2⟩ := h (j + 1) c (by simpa using hj)
      exact ⟨v, h1, by rw [show o + 1 + j = o + (j + 1) from by omega]; exact h2⟩
    refine ⟨v :: vs, ⟨h1, r⟩, fun j u hj => ?_⟩
    cases j with
    | zero => simp at hj; subst hj; exact h2
    | succ j => simp at hj; rw [show o + (j + 1) = o + 1 + j from by omega]; exact hvs j u hj
theorem Held.append {b o : Nat} {l l' : List SC} (h : Held α w b o l) (h' : Held α w b (o + l.length) l') : Held α w b o (l ++ l') := by
  obtain ⟨vs, r, hv⟩ := h
  obtain ⟨vs', r', hv'⟩ := h'
  refine ⟨vs ++ vs', r.append r', fun j v hj => ?_⟩
  by_cases hl : j < vs.length
  · rw [List.getElem?_append_left hl] at hj; exact hv j v hj
  · rw [List.getElem?_append_right (by omega)] at hj
    have := hv' (j - vs.length) v hj
    rw [← r.length] at this
    rw [show o + vs.length + (j - vs.length) = o + j from by omega] at this
    exact this
theorem Held.sub {b o : Nat} {l : List SC} (h : Held α w b o l) (i n : Nat) : Held α w b (o + i) ((l.drop i).take n) := by
  obtain ⟨vs, r, hv⟩ := h
  refine ⟨(vs.drop i).take n, (r.drop i).take n, fun j v hj => ?_⟩
  rw [List.getElem?_take] at hj
  split at hj
  · rw [List.getElem?_drop] at hj
    rw [show o + i + j = o + (i + j) from by omega]; exact hv _ v hj
  · simp at hj
theorem Good.held {d : Den} {wb : Bool} {k : MK} {T : TypeId} {m : Nat} {ct : Ct} (hg : Good α w d (.mem wb k T m ct)) {i : Nat} (hi : i < ct.len) :
    Held α w d.blk (d.off + i * m) (ct.get i) := Held.of_cells fun j c hj => let ⟨v, h1, h2, _⟩ := (hg.cell hi).2 j c hj; ⟨v, h1, h2⟩
theorem Good.gather {d : Den} {wb : Bool} {k : MK} {T : TypeId} {m : Nat} {ct : Ct} (hg : Good α w d (.mem wb k T m ct)) : ∀ (n i : Nat), i + n ≤ ct.len →
    Held α w d.blk (d.off + i * m) (gather ct i n) ∧ (Ev.gather ct i n).length = n * m
  | 0, i, _ => ⟨⟨[], trivial, by simp⟩, by simp [Ev.gather]⟩
  | n + 1, i, h => by
    obtain ⟨h1, h2⟩ := Good.gather hg n (i + 1) (by omega)
    have hl := (hg.cell (i := i) (by omega)).1
    refine ⟨Held.append (hg.held (by omega)) ?_, by simp only [Ev.gather, List.length_append, hl, h2, Nat.succ_mul]; omega⟩
    rw [hl, show d.off + i * m + m = d.off + (i + 1) * m from by rw [Nat.succ_mul]; omega]
    exact h1

theorem run_loadHeld {b o : Nat} {l : List SC} (h : Held α w b o l) : ∃ vs, Reps α l vs ∧ (loadCells ⟨b, o, none⟩ l.length).run P w = .ok vs.toArray w := by
  obtain ⟨vs, r, hv⟩ := h
  refine ⟨vs, r, ?_⟩
  rw [← r.length]
  exact run_loadCells_list w _ vs fun j v hj => by rw [addr_add]; exact hv j v hj

theorem readAt_rep {T : TypeId} {e : List SC} {j : Nat} {a : SA} {b o : Nat} (h : Held α w b o e) (hr : readAt P T e j = some a) :
    ∃ v, a.rep α v ∧ (loadVar T ⟨b, o + j, none⟩).run P w = .ok v w := by
  unfold readAt at hr
  cases hA : tIsAgg P T with
  | none => simp [hA] at hr
  | some g =>
    have hA' := run_isAgg' hA w
    cases g with
    | true =>
      cases hs : tSize P T with
      | none => simp [hA, hs] at hr
      | some s =>
        simp only [hA, hs, lenL_eq, takeL_eq, dropL_eq] at hr
        split at hr
        · rename_i hle
          cases hr
          obtain ⟨vs, r, hl⟩ := run_loadHeld (P := P) (h.sub j s)
          have hlen : ((e.drop j).take s).length = s := by simp; omega
          rw [hlen] at hl
          exact ⟨_, ⟨vs, r, rfl⟩, by simp [loadVar, hA', run_size hs, hl]⟩
        · simp at hr
    | false =>
      simp only [hA, lenL_eq, getL_eq] at hr
      split at hr
      · rename_i hlt
        cases hr
        obtain ⟨vs, r, hv⟩ := h
        obtain ⟨v, h1, h2⟩ := r.get (i := j) (c := e[j]) (by simp [hlt])
        refine ⟨v, by simpa [SA.rep, hlt] using h2, ?_⟩
        simp [loadVar, hA', hv j v h1]
      · simp at hr

theorem asRow_spec {T : TypeId} {m n : Nat} (h : asRow P T m = some n) : tIsAgg P T = some true ∧ tSize P T = some (n * m) := by
  unfold asRow at h
  split at h
  · rename_i n' e hu
    split at h
    · rename_i s z hs hz
      split at h
      · rename_i hsm
        cases h
        exact ⟨by simp [tIsAgg, hu], by rw [hz, hsm.2]⟩
      · simp at h
    · simp at h
  · simp at h

theorem evLoad_sound {T : TypeId} {a : SA} {av : Value} {k : SV → Prop} (hR : R α st w) (ha : a.rep α av) (h : evLoad P T st a k) :
    ∃ sv v, (Instr.loadAt T av).run P w = .ok v w ∧ sv.rep α v ∧ k sv := by
  unfold evLoad at h
  split at h
  · rename_i o i j
    split at h
    · rename_i wb mk T' m ct hst
      obtain ⟨d, hd, hg⟩ := hR.good o _ hst
      simp only [SA.rep, SC.val?, hd, Option.some.injEq] at ha
      subst ha
      have hm : d.m = m := hg.1
      split at h
      · rename_i n hrow
        obtain ⟨hb, hk⟩ := need_iff.1 h
        have hb : i + n ≤ ct.len := by simpa using hb
        obtain ⟨h1, h2⟩ := hg.gather n i hb
        obtain ⟨vs, r, hl⟩ := run_loadHeld (P := P) h1
        obtain ⟨hA, hs⟩ := asRow_spec hrow
        rw [h2] at hl
        exact ⟨.sa (.agg _), _, by simp [Instr.loadAt, Instr.sureAddr, hm, loadVar, run_isAgg' hA, run_size hs, hl], ⟨vs, r, rfl⟩, hk⟩
      · obtain ⟨hb, hk⟩ := need_iff.1 h
        have hb : i < ct.len := by simpa using hb
        obtain ⟨a, hr, hk⟩ := opt_iff.1 hk
        obtain ⟨v, hv, hl⟩ := readAt_rep (hg.held hb) hr
        exact ⟨.sa a, v, by simp [Instr.loadAt, Instr.sureAddr, hm, hl], hv, hk⟩
    · exact h.elim
  · rename_i o
    split at h
    · rename_i hst hA hs
      obtain ⟨d, hd, a, hval⟩ := hR.good o _ hst
      simp only [SA.rep, SC.val?, hd, Option.some.injEq] at ha
      rw [hval] at ha
      subst ha
      refine ⟨.sa (.agg []), .agg #[], ?_, ⟨[], trivial, rfl⟩, h⟩
      simp [Instr.loadAt, Instr.sureAddr, loadVar, run_isAgg' hA, run_size hs, loadCells, loadCellsFrom]
    · exact h.elim
  · exact h.elim

/-! ### stores -/
theorem oneCell_of_isCell {v : Value} (h : Ev.isCell v = true) : v.oneCell' = true := by cases v <;> simp_all [Ev.isCell, Value.oneCell']

theorem setRow_other (w : World) (g : Nat) (cs : Array Value) {b : Nat} (h : b ≠ g) : (w.setRow g cs).heap[b]? = w.heap[b]? := by
  unfold World.setRow
  simp only [Array.getElem?_modify]
  rw [if_neg (fun e => h e.symm)]
theorem setRow_size (w : World) (g : Nat) (cs : Array Value) : (w.setRow g cs).heap.size = w.heap.size := by simp [World.setRow]

theorem run_storeCells_fz (g o : Nat) (t : TypeId) (fz : Nat × Nat) : ∀ (vs : List Value) (i : Nat) (cur : Array Value) (w : World), w.heap[g]? = some (.cells cur t fz) →
    fzOk cur.size fz → o + i + vs.length ≤ cur.size → (∀ v ∈ vs, Ev.isCell v = true) →
    (storeCells ⟨g, o, none⟩ vs i).run P w = .ok () (w.setRow g (cur.toList.take (o + i) ++ vs ++ cur.toList.drop (o + i + vs.length)).toArray)
  | [], i, cur, w, hg, _, _, _ => by
    simp only [storeCells, List.append_nil, List.length_nil, Nat.add_zero, List.take_append_drop, Array.toArray_toList]
    rw [setRow_self w g cur t fz hg]
    rfl
  | v :: rest, i, cur, w, hg, hf, hl, h1 => by
    have hi : o + i < cur.size := by simp at hl; omega
    have hcell : w.cell? ⟨g, o + i, none⟩ = some cur[o + i] := by simp [World.cell?, hg, hi]
    have hfro : w.frozen? ⟨g, o + i, none⟩ = false := by
      rcases hf with rfl | rfl <;> simp [World.frozen?, hg]
      omega
    have hst : (store ((⟨g, o, none⟩ : Addr).add i) v).run P w = .ok () (w.setRow g (cur.setIfInBounds (o + i) v)) := by
      rw [addr_add, run_store P w _ v _ (oneCell_of_isCell (h1 v (by simp))), hcell]
      simp [hfro, setCell_eq_setRow w g (o + i) cur t fz v hg]
    have ih := run_storeCells_fz g o t fz rest (i + 1) (cur.setIfInBounds (o + i) v) (w.setRow g (cur.setIfInBounds (o + i) v)) (setRow_heap w g cur _ t _ hg) (by simpa using hf) (by simp at hl ⊢; omega) (fun x hx => h1 x (by simp [hx]))
    simp only [storeCells, Sem.run_bind, hst, Result.andThen_ok, ih, setRow_setRow]
    congr 3
    apply List.ext_getElem?
    intro j
    simp only [Array.toList_setIfInBounds, List.getElem?_append, List.getElem?_take, List.getElem?_drop, List.length_append, List.length_take, List.length_set, List.length_cons, Array.length_toList, List.getElem?_set]
    have e1 : min (o + (i + 1)) cur.size = o + i + 1 := by omega
    have e2 : min (o + i) cur.size = o + i := by omega
    simp only [e1, e2]
    by_cases h3 : j < o + i
    · have x1 : j < o + i + 1 := by omega
      have x2 : j < o + i + 1 + rest.length := by omega
      have x3 : j < o + i + (rest.length + 1) := by omega
      have x4 : ¬ (o + i = j) := by omega
      have x5 : j < o + (i + 1) := by omega
      simp [h3, x1, x2, x3, x4, x5]
    · by_cases h4 : j = o + i
      · subst h4
        have x5 : o + i < o + (i + 1) := by omega
        simp [hi, x5]
        omega
      · have x1 : ¬ j < o + i + 1 := by omega
        by_cases h5 : j < o + i + 1 + rest.length
        · have x3 : j < o + i + (rest.length + 1) := by omega
          simp only [x1, h5, x3, h3, if_true, if_false]
          rw [show j - (o + i) = (j - (o + i + 1)) + 1 from by omega]
          simp
        · have x3 : ¬ j < o + i + (rest.length + 1) := by omega
          simp only [x1, h5, x3, h3, if_false]
          have y : ¬ (o + i = o + (i + 1) + rest.length + (j - (o + i + 1 + rest.length))) := by omega
          simp only [y, if_false]
          congr 1
          omega

/-- The row behind a store of cells: what it holds. -/
theorem row_get (cur : List Value) (o : Nat) (vs : List Value) (h : o + vs.length ≤ cur.length) (j : Nat) :
    (cur.take o ++ vs ++ cur.drop (o + vs.length))[j]? = if o ≤ j ∧ j < o + vs.length then vs[j - o]? else cur[j]? := by
  simp only [List.getElem?_append, List.length_append, List.length_take, List.getElem?_take, List.getElem?_drop]
  have e2 : min o cur.length = o := by omega
  simp only [e2]
  by_cases h1 : j < o
  · have x1 : j < o + vs.length := by omega
    have x2 : ¬ o ≤ j := by omega
    simp [h1, x1, x2]
  · by_cases h2 : j < o + vs.length
    · have x2 : o ≤ j := by omega
      simp [h1, h2, x2]
    · have x2 : o ≤ j := by omega
      simp only [h1, h2, x2, if_false, and_false]
      congr 1
      omega

theorem allCells_spec {l : List SC} (h : allCells l = true) : ∀ c ∈ l, c.isCell = true := by
  induction l with
  | nil => simp
  | cons c l ih =>
    simp only [allCells] at h
    split at h
    · rename_i hc
      intro x hx
      rcases List.mem_cons.1 hx with rfl | hx
      · exact hc
      · exact ih h x hx
    · simp at h
theorem Reps.isCell (href : ∀ o d, α o = some d → Ev.isCell d.val = true) {l : List SC} {vs : List Value} (h : Reps α l vs) (hl : ∀ c ∈ l, c.isCell = true) : ∀ v ∈ vs, Ev.isCell v = true := by
  induction l generalizing vs with
  | nil => cases vs with | nil => simp | cons _ _ => exact h.elim
  | cons c l ih => cases vs with
    | nil => exact h.elim
    | cons v vs =>
      intro x hx
      rcases List.mem_cons.1 hx with rfl | hx
      · exact SC.isCell_val href h.1 (hl c (by simp))
      · exact ih h.2 (fun c hc => hl c (by simp [hc])) x hx

theorem fitL_length {β : Type} {d : β} : ∀ (n : Nat) (xs : List β), (fitL d n xs).length = n
  | 0, _ => rfl
  | n + 1, [] => by simp [fitL, fitL_length n]
  | n + 1, x :: r => by simp [fitL, fitL_length n]
theorem fitL_get {β : Type} {d : β} : ∀ {n : Nat} {xs : List β} {i : Nat}, i < n → (fitL d n xs)[i]?.getD d = xs[i]?.getD d
  | n + 1, [], 0, _ => by simp [fitL]
  | n + 1, [], i + 1, h => by simpa [fitL] using fitL_get (d := d) (n := n) (xs := []) (i := i) (by omega)
  | n + 1, x :: r, 0, _ => by simp [fitL]
  | n + 1, x :: r, i + 1, h => by simpa [fitL] using fitL_get (d := d) (n := n) (xs := r) (i := i) (by omega)
theorem fitL_self {β : Type} {d : β} : ∀ (xs : List β), fitL d xs.length xs = xs
  | [] => rfl
  | x :: r => by simp [fitL, fitL_self r]
theorem fitL_map {β γ : Type} {d : β} (f : γ → β) (xs : List γ) : fitL d xs.length (xs.map f) = xs.map f := by
  have := fitL_self (d := d) (xs.map f)
  simpa using this

theorem Col.set_at {n i : Nat} {c c' : Col} {e : SC} (h : c.set n i e = some c') (hi : i < n) {j : Nat} (hj : j < n) : c'.at j = if j = i then e else c.at j := by
  unfold Col.set at h
  split at h
  · split at h
    · rename_i hk; subst hk; cases h
      simp only [Col.at, List.getD_eq_getElem?_getD, List.getElem?_set, fitL_length, hi, if_true]
      by_cases e : i = j
      · subst e; simp
      · rw [if_neg e, if_neg (fun x => e x.symm), fitL_get hj]
    · simp at h
  · cases h
    simp only [Col.at, List.getD_eq_getElem?_getD, List.getElem?_set, fitL_length, hi, if_true]
    by_cases e : i = j
    · subst e; simp
    · rw [if_neg e, if_neg (fun x => e x.symm), fitL_get hj]
  · simp at h
theorem Col.push_at {n : Nat} {c c' : Col} {e : SC} (h : c.push n e = some c') {j : Nat} (hj : j < n + 1) : c'.at j = if j < n then c.at j else e := by
  unfold Col.push at h
  split at h
  · split at h
    · rename_i hk; subst hk; cases h
      simp only [Col.at, List.getD_eq_getElem?_getD, List.getElem?_append, fitL_length]
      by_cases e : j < n
      · rw [if_pos e, if_pos e, fitL_get e]
      · rw [if_neg e, if_neg e, show j - n = 0 by omega]; simp
    · simp at h
  · cases h
    simp only [Col.at, List.getD_eq_getElem?_getD, List.getElem?_append, fitL_length]
    by_cases e : j < n
    · rw [if_pos e, if_pos e, fitL_get e]
    · rw [if_neg e, if_neg e, show j - n = 0 by omega]; simp
  · simp at h

theorem zipO_same {f : Col → SC → Option Col} {j : Nat} (hf : ∀ c e c', f c e = some c' → c'.at j = c.at j) : ∀ {cs : List Col} {es : List SC} {cs' : List Col}, zipO f cs es = some cs' → colsAt j cs' = colsAt j cs
  | [], [], cs', h => by simp [zipO] at h; subst h; rfl
  | [], _ :: _, cs', h => by simp [zipO] at h
  | _ :: _, [], cs', h => by simp [zipO] at h
  | c :: cs, e :: es, cs', h => by
    simp only [zipO] at h
    split at h
    · rename_i c1 r1 h1 h2; cases h; simp [colsAt, hf _ _ _ h1, zipO_same hf h2]
    · simp at h
theorem zipO_new {f : Col → SC → Option Col} {j : Nat} (hf : ∀ c e c', f c e = some c' → c'.at j = e) : ∀ {cs : List Col} {es : List SC} {cs' : List Col}, zipO f cs es = some cs' → colsAt j cs' = es
  | [], [], cs', h => by simp [zipO] at h; subst h; rfl
  | [], _ :: _, cs', h => by simp [zipO] at h
  | _ :: _, [], cs', h => by simp [zipO] at h
  | c :: cs, e :: es, cs', h => by
    simp only [zipO] at h
    split at h
    · rename_i c1 r1 h1 h2; cases h; simp [colsAt, hf _ _ _ h1, zipO_new hf h2]
    · simp at h
theorem colsSet_at {n i : Nat} (hi : i < n) {cs cs' : List Col} {e : List SC} (h : zipO (Col.set n i) cs e = some cs') {j : Nat} (hj : j < n) : colsAt j cs' = if j = i then e else colsAt j cs := by
  by_cases he : j = i
  · rw [if_pos he]; exact zipO_new (fun c e c' h => by rw [Col.set_at h hi hj, if_pos he]) h
  · rw [if_neg he]; exact zipO_same (fun c e c' h => by rw [Col.set_at h hi hj, if_neg he]) h
theorem colsPush_at {n : Nat} {cs cs' : List Col} {e : List SC} (h : zipO (Col.push n) cs e = some cs') {j : Nat} (hj : j < n + 1) : colsAt j cs' = if j < n then colsAt j cs else e := by
  by_cases he : j < n
  · rw [if_pos he]; exact zipO_same (fun c e c' h => by rw [Col.push_at h hj, if_pos he]) h
  · rw [if_neg he]; exact zipO_new (fun c e c' h => by rw [Col.push_at h hj, if_neg he]) h

theorem Ct.set_len {ct ct' : Ct} {i : Nat} {e : List SC} (h : ct.set i e = some ct') : ct'.len = ct.len := by
  unfold Ct.set at h
  split at h
  · cases h; simp [Ct.len]
  · split at h
    · cases h; simp [Ct.len]
    · simp at h
  · split at h
    · cases h; simp [Ct.len]
    · simp at h
  · simp at h
theorem Ct.set_get {ct ct' : Ct} {i : Nat} {e : List SC} (h : ct.set i e = some ct') (hi : i < ct.len) (i' : Nat) (hi' : i' < ct.len) : ct'.get i' = if i' = i then e else ct.get i' := by
  unfold Ct.set at h
  split at h
  · cases h
    simp only [Ct.get, getL_eq, setL_eq, List.getElem?_set]
    simp only [Ct.len] at hi
    by_cases he : i' = i
    · subst he; simp [hi]
    · have : ¬ i = i' := fun x => he x.symm
      simp [he, this]
  · split at h
    · rename_i hk
      subst hk
      cases h
      simp only [Ct.len] at hi
      simp only [Ct.get, List.getD_eq_getElem?_getD, List.getElem?_set]
      by_cases he : i' = i
      · subst he; simp [hi]
      · have : ¬ i = i' := fun x => he x.symm
        simp [he, this]
    · simp at h
  · split at h
    · rename_i cs' hz
      cases h
      exact colsSet_at hi hz hi'
    · simp at h
  · simp at h

/-- The general step of a store: cells turned from an element's place on. -/
theorem Good.stored {d : Den} {mk : MK} {T' : TypeId} {m : Nat} {ct ct' : Ct} (hmk : mk ≠ .ext) (hg : Good α w d (.mem true mk T' m ct)) {p : Nat} {l : List SC} {vs : List Value} (hr : Reps α l vs)
    (hc : ∀ v ∈ vs, Ev.isCell v = true) (hp : p + l.length ≤ ct.len * m) (hlen : ct'.len = ct.len)
    (hnew : ∀ i, i < ct.len → (ct'.get i).length = m ∧ ∀ j c, (ct'.get i)[j]? = some c →
      (p ≤ i * m + j ∧ i * m + j < p + l.length ∧ l[i * m + j - p]? = some c) ∨ (¬ (p ≤ i * m + j ∧ i * m + j < p + l.length) ∧ (ct.get i)[j]? = some c)) :
    ∃ w', (storeCells ⟨d.blk, d.off + p, none⟩ vs).run P w = .ok () w' ∧ w'.heap.size = w.heap.size ∧ (∀ b, b ≠ d.blk → w'.heap[b]? = w.heap[b]?) ∧ w'.tape = w.tape ∧ w'.os = w.os ∧
      w'.output = w.output ∧ Good α w' d (.mem true mk T' m ct') := by
  obtain ⟨h1, h2, h4⟩ := hg
  have h4' : ∃ (cs : Array Value) (fz : Nat × Nat), w.heap[d.blk]? = some (.cells cs T' fz) ∧ fzOk cs.size fz ∧ d.off + d.cap * m = cs.size ∧ ct.len ≤ d.cap ∧ (mk = .whole → ct.len = d.cap) ∧
        ct.Cells α m fun i j => cs[d.off + i * m + j]? := by
    cases mk with
    | ext => exact absurd rfl hmk
    | whole => exact h4
    | row => exact h4
  obtain ⟨cs, fz, h5, h6, h7, h8, h9, h10⟩ := h4'
  have hcap : ct.len * m ≤ d.cap * m := Nat.mul_le_mul_right _ h8
  have hl := hr.length
  have hle : d.off + p + vs.length ≤ cs.size := by omega
  have hst := run_storeCells_fz (P := P) d.blk (d.off + p) T' fz vs 0 cs w h5 h6 (by simpa using hle) hc
  simp only [Nat.add_zero] at hst
  refine ⟨_, hst, setRow_size _ _ _, fun b hb => setRow_other _ _ _ hb, rfl, rfl, rfl, h1, h2, ?_⟩
  have hsz : (cs.toList.take (d.off + p) ++ vs ++ cs.toList.drop (d.off + p + vs.length)).toArray.size = cs.size := by simp; omega
  have hfin : ∃ (cs' : Array Value) (fz : Nat × Nat), (w.setRow d.blk (cs.toList.take (d.off + p) ++ vs ++ cs.toList.drop (d.off + p + vs.length)).toArray).heap[d.blk]? = some (.cells cs' T' fz) ∧ fzOk cs'.size fz ∧
      d.off + d.cap * m = cs'.size ∧ ct'.len ≤ d.cap ∧ (mk = .whole → ct'.len = d.cap) ∧ ct'.Cells α m fun i j => cs'[d.off + i * m + j]? := by
    refine ⟨_, fz, setRow_heap w d.blk cs _ T' fz h5, by rw [hsz]; exact h6, by rw [hsz]; exact h7, by omega, fun e => by rw [hlen]; exact h9 e, ?_⟩
    intro i hi
    rw [hlen] at hi
    refine ⟨(hnew i hi).1, fun j c hj => ?_⟩
    have hg := row_get cs.toList (d.off + p) vs (by simpa using hle) (d.off + i * m + j)
    simp only [List.getElem?_toArray]
    rw [hg]
    rcases (hnew i hi).2 j c hj with ⟨a1, a2, a3⟩ | ⟨a1, a2⟩
    · rw [if_pos (by omega)]
      obtain ⟨v, x1, x2⟩ := hr.get a3
      exact ⟨v, x2, by rw [show d.off + i * m + j - (d.off + p) = i * m + j - p from by omega]; exact x1, hc v (List.mem_of_getElem? x1)⟩
    · rw [if_neg (by omega)]
      obtain ⟨v, x1, x2, x3⟩ := (h10 i hi).2 j c a2
      exact ⟨v, x1, by simpa using x2, x3⟩
  cases mk with
  | ext => exact absurd rfl hmk
  | whole => exact hfin
  | row => exact hfin

theorem splice_length {l e : List SC} {j : Nat} (h : j + e.length ≤ l.length) : (splice l j e).length = l.length := by
  simp [splice]; omega
theorem splice_get {l e : List SC} {j : Nat} (h : j + e.length ≤ l.length) (x : Nat) : (splice l j e)[x]? = if j ≤ x ∧ x < j + e.length then e[x - j]? else l[x]? := by
  simp only [splice, takeL_eq, dropL_eq, List.getElem?_append, List.length_append, List.length_take, List.getElem?_take, List.getElem?_drop]
  have e2 : min j l.length = j := by omega
  simp only [e2]
  by_cases h1 : x < j
  · have x1 : x < j + e.length := by omega
    have x2 : ¬ j ≤ x := by omega
    simp [h1, x1, x2]
  · by_cases h2 : x < j + e.length
    · have x2 : j ≤ x := by omega
      simp [h1, h2, x2]
    · have x2 : j ≤ x := by omega
      simp only [h1, h2, x2, if_false, and_false]
      congr 1
      omega

/-- elements from i on turned -/
theorem scatter_spec {m : Nat} (hm : 0 < m) : ∀ (n i : Nat) (ct ct' : Ct) (l : List SC), scatter m ct i l n = some ct' → l.length = n * m → i + n ≤ ct.len → (∀ i, i < ct.len → (ct.get i).length = m) →
    ct'.len = ct.len ∧ ∀ x, x < ct.len → (ct'.get x).length = m ∧ ∀ j, j < m → (ct'.get x)[j]? = if i ≤ x ∧ x < i + n then l[(x - i) * m + j]? else (ct.get x)[j]?
  | 0, i, ct, ct', l, h, hl, hi, hc => by
    simp [scatter] at h
    subst h
    refine ⟨rfl, fun x hx => ⟨hc x hx, fun j hj => ?_⟩⟩
    rw [if_neg (by omega)]
  | n + 1, i, ct, ct', l, h, hl, hi, hc => by
    simp only [scatter] at h
    split at h
    · rename_i ct1 h1
      simp only [takeL_eq, dropL_eq] at h h1
      have hl1 := Ct.set_len h1
      have hg1 := Ct.set_get h1 (by omega)
      have hlm : m ≤ l.length := by rw [hl, Nat.succ_mul]; omega
      have hc1 : ∀ x, x < ct1.len → (ct1.get x).length = m := by
        intro x hx
        rw [hg1 x (by omega)]
        split
        · simp; omega
        · exact hc x (by omega)
      obtain ⟨hA, hB⟩ := scatter_spec hm n (i + 1) ct1 ct' (l.drop m) h (by simp [hl, Nat.succ_mul]) (by omega) hc1
      refine ⟨by omega, fun x hx => ⟨(hB x (by omega)).1, fun j hj => ?_⟩⟩
      rw [(hB x (by omega)).2 j hj]
      by_cases hx1 : i + 1 ≤ x ∧ x < i + 1 + n
      · rw [if_pos hx1, if_pos (by omega), List.getElem?_drop]
        congr 1
        have : (x - i) * m = (x - (i + 1)) * m + m := by rw [show x - i = (x - (i + 1)) + 1 from by omega, Nat.succ_mul]
        omega
      · rw [if_neg hx1, hg1 x hx]
        by_cases hx2 : x = i
        · subst hx2
          rw [if_pos rfl, if_pos (by omega), List.getElem?_take]
          simp [hj]
        · rw [if_neg hx2, if_neg (by omega)]
    · simp at h

theorem evStore_sound {T : TypeId} {a b : SA} {av bv : Value} {k : St → Prop} (hR : R α st w) (ha : a.rep α av) (hb : b.rep α bv) (h : evStore P T st a b k) :
    ∃ w' st', (Instr.storeAt T av bv).run P w = .ok () w' ∧ k st' ∧ To α st w α st' w' := by
  unfold evStore at h
  split at h
  · rename_i o i j
    split at h
    · rename_i mk T' m ct hst
      obtain ⟨d, hd, hg⟩ := hR.good o _ hst
      simp only [SA.rep, SC.val?, hd, Option.some.injEq] at ha
      subst ha
      have hdm : d.m = m := hg.1
      have hm : 0 < m := hg.2.1
      split at h
      · exact h.elim
      · rename_i hmk
        have hmk : mk ≠ .ext := hmk
        split at h
        · rename_i s hs
          split at h
          · rename_i h1 h2
            have h1 : b.cells.length = s := by simpa using h1
            have hcs := allCells_spec h2
            have hcb : ∀ c, b = .one c → Ev.isCell bv = true := by
              rintro c rfl
              exact SC.isCell_val hR.cell hb (hcs c (by simp [SA.cells]))
            have hrep := SA.rep_cells hb hcb
            have hcell := hrep.isCell hR.cell hcs
            have hsz : bv.cells.size = s := by rw [← h1, ← hrep.length]; simp
            have hwr : (SO.mem true mk T' m ct).wr = true := by cases mk <;> first | rfl | exact absurd rfl hmk
            have fin : ∀ ct' (p : Nat), p + b.cells.length ≤ ct.len * m → ct'.len = ct.len → i * m + j = p →
                (∀ i, i < ct.len → (ct'.get i).length = m ∧ ∀ j c, (ct'.get i)[j]? = some c →
                  (p ≤ i * m + j ∧ i * m + j < p + b.cells.length ∧ b.cells[i * m + j - p]? = some c) ∨ (¬ (p ≤ i * m + j ∧ i * m + j < p + b.cells.length) ∧ (ct.get i)[j]? = some c)) →
                k (st.put o (some (.mem true mk T' m ct'))) → ∃ w' st', (Instr.storeAt T (.pointer (some ⟨d.blk, d.off + i * d.m + j, none⟩)) bv).run P w = .ok () w' ∧ k st' ∧ To α st w α st' w' := by
              intro ct' p hp hl he hn hk
              obtain ⟨w', x1, x2, x3, x4, x5, x6, x7⟩ := Good.stored (P := P) hmk hg hrep hcell hp hl hn
              refine ⟨w', _, ?_, hk, To.upd hR hst hd hwr (by cases mk <;> first | rfl | exact absurd rfl hmk) x2 x3 x4 x5 x6 x7⟩
              simp only [Instr.storeAt, Instr.sureAddr, storeVar]
              rw [hdm, show d.off + i * m + j = d.off + p from by omega]
              simp [run_size hs, hsz, x1]
            obtain ⟨j0, hj0⟩ : ∃ j0, j0 = j := ⟨j, rfl⟩
            split at h
            · rename_i n hrow
              split at h
              · rename_i hsn
                have hsn : s = n * m := by simpa using hsn
                obtain ⟨hb1, hk⟩ := need_iff.1 h
                have hb1 : i + n ≤ ct.len := by simpa using hb1
                obtain ⟨ct', hsc, hk⟩ := opt_iff.1 hk
                obtain ⟨hA, hB⟩ := scatter_spec hm n i ct ct' b.cells hsc (by omega) hb1 (fun x hx => (hg.cell hx).1)
                refine fin ct' (i * m) ?_ hA (by omega) ?_ hk
                · have := Nat.mul_le_mul_right m hb1
                  rw [Nat.add_mul] at this
                  omega
                · intro x hx
                  obtain ⟨hC, hD⟩ := hB x hx
                  refine ⟨hC, fun y c hy => ?_⟩
                  have hym : y < m := by
                    rw [← hC]; exact (List.getElem?_eq_some_iff.1 hy).1
                  rw [hD y hym] at hy
                  by_cases hxi : i ≤ x ∧ x < i + n
                  · rw [if_pos hxi] at hy
                    left
                    have e1 : x * m = i * m + (x - i) * m := by rw [← Nat.add_mul]; congr 1; omega
                    have e2 : (x - i) * m + m ≤ n * m := by
                      have := Nat.mul_le_mul_right m (show x - i + 1 ≤ n from by omega)
                      rw [Nat.succ_mul] at this; exact this
                    refine ⟨by omega, by omega, ?_⟩
                    rw [show x * m + y - i * m = (x - i) * m + y from by omega]
                    exact hy
                  · rw [if_neg hxi] at hy
                    right
                    refine ⟨?_, hy⟩
                    by_cases hlt : x < i
                    · have : x * m + m ≤ i * m := by
                        have := Nat.mul_le_mul_right m (show x + 1 ≤ i from hlt)
                        rw [Nat.succ_mul] at this; exact this
                      omega
                    · have : (i + n) * m ≤ x * m := Nat.mul_le_mul_right m (by omega)
                      rw [Nat.add_mul] at this
                      omega
              · exact h.elim
            · subst hj0
              split at h
              · rename_i hjs
                have hjs : j0 + s ≤ m := by simpa using hjs
                obtain ⟨hb1, hk⟩ := need_iff.1 h
                have hb1 : i < ct.len := by simpa using hb1
                obtain ⟨ct', hsc, hk⟩ := opt_iff.1 hk
                have hge := (hg.cell hb1).1
                have hset := Ct.set_get hsc hb1
                have hle : (i + 1) * m ≤ ct.len * m := Nat.mul_le_mul_right m hb1
                rw [Nat.succ_mul] at hle
                refine fin ct' (i * m + j0) (by omega) (Ct.set_len hsc) rfl ?_ hk
                intro x hx
                rw [hset x (by omega)]
                by_cases hxi : x = i
                · subst hxi
                  rw [if_pos rfl]
                  refine ⟨by rw [splice_length (by omega)]; exact hge, fun y c hy => ?_⟩
                  rw [splice_get (by omega)] at hy
                  by_cases hyj : j0 ≤ y ∧ y < j0 + b.cells.length
                  · rw [if_pos hyj] at hy
                    left
                    refine ⟨by omega, by omega, ?_⟩
                    rw [show x * m + y - (x * m + j0) = y - j0 from by omega]
                    exact hy
                  · rw [if_neg hyj] at hy
                    right
                    exact ⟨by omega, hy⟩
                · rw [if_neg hxi]
                  refine ⟨(hg.cell hx).1, fun y c hy => .inr ⟨?_, hy⟩⟩
                  have hym : y < m := by
                    rw [← (hg.cell hx).1]; exact (List.getElem?_eq_some_iff.1 hy).1
                  by_cases hlt : x < i
                  · have : x * m + m ≤ i * m := by
                      have := Nat.mul_le_mul_right m (show x + 1 ≤ i from hlt)
                      rw [Nat.succ_mul] at this; exact this
                    omega
                  · have : i * m + m ≤ x * m := by
                      have := Nat.mul_le_mul_right m (show i + 1 ≤ x from by omega)
                      rw [Nat.succ_mul] at this; exact this
                    omega
              · exact h.elim
          · exact h.elim
        · exact h.elim
    · exact h.elim
  · rename_i o
    split at h
    · rename_i hst hA hs hc
      obtain ⟨d, hd, a, hval⟩ := hR.good o _ hst
      simp only [SA.rep, SC.val?, hd, Option.some.injEq] at ha
      rw [hval] at ha
      subst ha
      have hbc : bv.cells = #[] := by
        cases b with
        | one c => simp [SA.cells] at hc
        | agg l =>
          simp only [SA.cells] at hc
          subst hc
          obtain ⟨vs, r, rfl⟩ := hb
          cases vs with
          | nil => rfl
          | cons _ _ => exact r.elim
      refine ⟨w, st, ?_, h, To.refl hR⟩
      simp [Instr.storeAt, Instr.sureAddr, storeVar, run_isAgg' hA, run_size hs, hbc, storeCells]
    · exact h.elim
  · exact h.elim


end Go.Ev

/- THE ENGINE, part 5: new memory; structs, arrays and slices written out; addresses; comparisons. -/
namespace Go.Ev
open Go
variable {P : Program} {α : Al} {st : St} {w : World}

/-- A new row of cells. -/
theorem To.row (hR : R α st w) {mk : MK} {T : TypeId} {m cap : Nat} {ct : Ct} {cs : Array Value} {fz : Nat × Nat} (hmk : mk ≠ .ext) (hm : 0 < m) (hf : fzOk cs.size fz) (hs : cap * m = cs.size)
    (hc : ct.len ≤ cap) (hw : mk = .whole → ct.len = cap) (hcells : ct.Cells α m fun i j => cs[i * m + j]?) :
    To α st w (α.add st.length ⟨w.heap.size, 0, m, cap, .nilFunc⟩) (st ++ [some (.mem true mk T m ct)]) (w.alloc (.cells cs T fz)) := by
  refine To.new hR (fun _ => by cases mk <;> first | rfl | exact absurd rfl hmk) (fun _ => rfl) rfl ?_
  have hle := Al.le_add (d := ⟨w.heap.size, 0, m, cap, .nilFunc⟩) (hR.none _ (Nat.le_refl _))
  refine ⟨rfl, hm, ?_⟩
  have fin : ∃ (cs' : Array Value) (fz : Nat × Nat), (w.alloc (.cells cs T fz)).heap[w.heap.size]? = some (.cells cs' T fz) ∧ fzOk cs'.size fz ∧ 0 + cap * m = cs'.size ∧ ct.len ≤ cap ∧ (mk = .whole → ct.len = cap) ∧
      ct.Cells (α.add st.length ⟨w.heap.size, 0, m, cap, .nilFunc⟩) m fun i j => cs'[0 + i * m + j]? := by
    refine ⟨cs, fz, heap_alloc_eq _ _, hf, by omega, hc, hw, hcells.mono hle fun i j v e => ?_⟩
    simpa using e
  have fin : ∃ (cs' : Array Value) (fz' : Nat × Nat), (w.alloc (.cells cs T fz)).heap[w.heap.size]? = some (.cells cs' T fz') ∧ fzOk cs'.size fz' ∧ 0 + cap * m = cs'.size ∧ ct.len ≤ cap ∧ (mk = .whole → ct.len = cap) ∧
      ct.Cells (α.add st.length ⟨w.heap.size, 0, m, cap, .nilFunc⟩) m fun i j => cs'[0 + i * m + j]? :=
    ⟨cs, fz, heap_alloc_eq _ _, hf, by omega, hc, hw, hcells.mono hle fun i j v e => by simpa using e⟩
  cases mk with
  | ext => exact absurd rfl hmk
  | whole => exact fin
  | row => exact fin

theorem chunks_length {α : Type} (m : Nat) : ∀ (n : Nat) (l : List α), (chunks m n l).length = n
  | 0, _ => rfl
  | n + 1, l => by simp [chunks, chunks_length m n]
theorem chunks_get {α : Type} (m : Nat) : ∀ (n : Nat) (l : List α) (i : Nat), i < n → (chunks m n l)[i]? = some ((l.drop (i * m)).take m)
  | n + 1, l, 0, _ => by simp [chunks]
  | n + 1, l, i + 1, h => by
    simp only [chunks, List.getElem?_cons_succ, dropL_eq, takeL_eq]
    rw [chunks_get m n _ i (by omega), List.drop_drop, Nat.succ_mul, Nat.add_comm]

theorem SA.cells_rep (hR : R α st w) {a : SA} {v : Value} (h : a.rep α v) (hc : allCells a.cells = true) : Reps α a.cells v.cells.toList := by
  refine SA.rep_cells h fun c e => ?_
  subst e
  exact SC.isCell_val hR.cell h (allCells_spec hc c (by simp [SA.cells]))

theorem run_newVar (T : TypeId) (v : Value) : (newVar T v).run P w = .ok ⟨w.heap.size, 0, none⟩ (w.alloc (.cells v.cells T)) := by
  simp [newVar, newRow]

/-- A new block that nobody keeps. -/
theorem To.alloc (hR : R α st w) {ob : Obj} : To α st w α st (w.alloc ob) :=
  ⟨⟨fun o so ho => let ⟨d, h1, h2⟩ := hR.good o so ho; ⟨d, h1, h2.congr (Al.le.refl _) (fun hh => heap_alloc_lt w ob (h2.lt hh)) (by simp)⟩, hR.sep, hR.none, hR.cell⟩,
   fun _ _ => rfl, Nat.le_refl _, fun _ so' _ h => ⟨so', h, rfl, rfl⟩, fun o _ ho h => by have := St.get_lt h; omega, fun _ _ h => h, fun b hb _ => heap_alloc_lt w ob hb, by simp, rfl, rfl, rfl⟩

theorem evNew_sound {T : TypeId} {cells : List SC} {v : Value} {k : SV → St → Prop} (hR : R α st w) (hr : allCells cells = true → Reps α cells v.cells.toList) (h : evNew P st T cells k) :
    ∃ α' sv st', sv.rep α' (.pointer (some ⟨w.heap.size, 0, none⟩)) ∧ k sv st' ∧ To α st w α' st' (w.alloc (.cells v.cells T)) := by
  unfold evNew at h
  split at h
  · rename_i hac
    have hrep := hr hac
    have hcell := hrep.isCell hR.cell (allCells_spec hac)
    have hlen : v.cells.size = cells.length := by rw [← hrep.length]; simp
    split at h
    · rename_i n e hu
      split at h
      · rename_i s hs
        split at h
        · rename_i hd
          have hd : 0 < s ∧ cells.length = n * s := by simpa using hd
          refine ⟨_, _, _, ?_, h, To.row (cap := n) hR (by simp) hd.1 (.inl rfl) (by rw [hlen, hd.2]) (by simp [Ct.len, chunks_length]) (fun _ => by simp [Ct.len, chunks_length]) ?_⟩
          · simp [SV.rep, SA.rep, SC.val?, Al.add_same]
          · intro i hi
            simp only [Ct.len, chunks_length] at hi
            simp only [Ct.get, getL_eq, chunks_get s n cells i hi, Option.getD_some]
            have hin : i * s + s ≤ n * s := by
              have := Nat.mul_le_mul_right s (show i + 1 ≤ n from hi)
              rw [Nat.succ_mul] at this; exact this
            refine ⟨by simp; omega, fun j c hj => ?_⟩
            rw [List.getElem?_take] at hj
            split at hj
            · rw [List.getElem?_drop] at hj
              obtain ⟨u, x1, x2⟩ := hrep.get hj
              exact ⟨u, x2, by simpa using x1, hcell u (List.mem_of_getElem? x1)⟩
            · simp at hj
        · exact h.elim
      · exact h.elim
    · split at h
      · rename_i hd
        have hd : 0 < cells.length := by simpa using hd
        refine ⟨_, _, _, ?_, h, To.row (cap := 1) hR (by simp) (by simpa using hd) (.inl rfl) (by simp [hlen]) (by simp [Ct.len]) (fun _ => by simp [Ct.len]) ?_⟩
        · simp [SV.rep, SA.rep, SC.val?, Al.add_same]
        · intro i hi
          have hi : i = 0 := by simp [Ct.len] at hi; exact hi
          subst hi
          simp only [Ct.get, getL_eq, List.getElem?_cons_zero, Option.getD_some, lenL_eq]
          refine ⟨trivial, fun j c hj => ?_⟩
          obtain ⟨u, x1, x2⟩ := hrep.get hj
          exact ⟨u, x2, by simpa using x1, hcell u (List.mem_of_getElem? x1)⟩
      · have h0 : To α st w α st (w.alloc (.cells v.cells T)) := To.alloc hR
        refine ⟨_, _, _, ?_, h, h0.trans (To.ghost (d := ⟨0, 0, 0, 0, .pointer (some ⟨w.heap.size, 0, none⟩)⟩) h0.rep rfl rfl ⟨_, rfl⟩)⟩
        simp [SV.rep, SA.rep, SC.val?, Al.add_same]
    · exact h.elim
  · exact h.elim

theorem evAlloc_sound {T : TypeId} {z : Value} {k : SV → St → Prop} (hR : R α st w) (hz : tZero P T = some z) (h : evNew P st T (z.cells.toList.map .raw) k) :
    Got P α st w (Instr.alloc T true (.tuple #[])) k := by
  obtain ⟨α', sv, st', x1, x2, x3⟩ := evNew_sound hR (v := z) (fun _ => Reps.raw _) h
  exact ⟨_, _, α', sv, st', by simp [Instr.alloc, run_zero hz, run_newVar], x1, x2, x3⟩
theorem evBox_sound {T : TypeId} {a : SA} {v : Value} {k : SV → St → Prop} (hR : R α st w) (ha : a.rep α v) (h : evNew P st T a.cells k) :
    Got P α st w (Instr.box T v) k := by
  obtain ⟨α', sv, st', x1, x2, x3⟩ := evNew_sound hR (v := v) (fun hc => SA.cells_rep hR ha hc) h
  exact ⟨_, _, α', sv, st', by simp [Instr.box, run_newVar], x1, x2, x3⟩

/-! ### what is written out -/
theorem foldl_set_get (off : Nat) : ∀ (l : List Value) (k : Nat) (cs : Array Value) (j : Nat),
    ((l.zipIdx k).foldl (fun (cs : Array Value) (x : Value × Nat) => cs.setIfInBounds (off + x.2) x.1) cs).size = cs.size ∧
    (off + k + l.length ≤ cs.size → ((l.zipIdx k).foldl (fun (cs : Array Value) (x : Value × Nat) => cs.setIfInBounds (off + x.2) x.1) cs)[j]? = if off + k ≤ j ∧ j < off + k + l.length then l[j - (off + k)]? else cs[j]?)
  | [], k, cs, j => ⟨rfl, fun _ => by simp; intros; omega⟩
  | v :: l, k, cs, j => by
    obtain ⟨h1, h2⟩ := foldl_set_get off l (k + 1) (cs.setIfInBounds (off + k) v) j
    simp only [List.zipIdx_cons, List.foldl_cons]
    refine ⟨by rw [h1]; simp, fun h => ?_⟩
    rw [h2 (by simp at h ⊢; omega), Array.getElem?_setIfInBounds]
    simp only [List.length_cons] at h ⊢
    by_cases c1 : off + (k + 1) ≤ j ∧ j < off + (k + 1) + l.length
    · rw [if_pos c1, if_pos (by omega), show j - (off + k) = (j - (off + (k + 1))) + 1 from by omega]
      simp
    · rw [if_neg c1]
      by_cases c2 : off + k = j
      · subst c2
        rw [if_pos rfl, if_pos (by omega), if_pos (by omega)]
        simp
      · rw [if_neg c2, if_neg (by omega)]

theorem fill_size {v : Array Value} (off : Nat) (cs : Array Value) : (v.zipIdx.foldl (fun (cs : Array Value) (x : Value × Nat) => cs.setIfInBounds (off + x.2) x.1) cs).size = cs.size := by
  rw [← Array.foldl_toList, Array.toList_zipIdx]
  exact (foldl_set_get off v.toList 0 cs 0).1
theorem fill_get {v : Array Value} {off : Nat} {cs : Array Value} (h : off + v.size ≤ cs.size) (j : Nat) :
    (v.zipIdx.foldl (fun (cs : Array Value) (x : Value × Nat) => cs.setIfInBounds (off + x.2) x.1) cs)[j]? = if off ≤ j ∧ j < off + v.size then v[j - off]? else cs[j]? := by
  rw [← Array.foldl_toList, Array.toList_zipIdx]
  have := (foldl_set_get off v.toList 0 cs j).2 (by simpa using h)
  simpa using this

def RepsP (α : Al) : List (Nat × SA) → List (Nat × Value) → Prop
  | [], [] => True
  | a :: l, v :: vs => (a.1 = v.1 ∧ a.2.rep α v.2) ∧ RepsP α l vs
  | _, _ => False

theorem fillL_sound (hR : R α st w) {pl pl' : Nat → Option (Nat × Nat)} (hpl : ∀ i, pl i = pl' i) : ∀ {parts : List (Nat × SA)} {vs : List (Nat × Value)} {cells out : List SC} {cs : Array Value},
    RepsP α parts vs → Reps α cells cs.toList → fillL pl cells parts = some out → ∃ r : Array Value, Instr.fill pl' cs vs = some r ∧ Reps α out r.toList
  | [], [], cells, out, cs, _, hr, h => by simp [fillL] at h; subst h; exact ⟨cs, rfl, hr⟩
  | (i, a) :: parts, (i', v) :: vs, cells, out, cs, hp, hr, h => by
    obtain ⟨⟨rfl, ha⟩, hp⟩ := hp
    simp only [fillL, hpl] at h
    simp only [Instr.fill]
    split at h
    · simp at h
    · rename_i off size hplace
      simp only [lenL_eq] at h
      split at h
      · rename_i hc
        obtain ⟨h1, h2, h3⟩ := hc
        have hcr := SA.cells_rep hR ha h3
        have hvs : v.cells.size = size := by rw [← h1, ← hcr.length]; simp
        have hcsz : cs.size = cells.length := by rw [← hr.length]; simp
        have hcond : ¬ (v.cells.size ≠ size ∨ off + v.cells.size > cs.size) := by omega
        have hgo : Reps α (splice cells off a.cells) (v.cells.zipIdx.foldl (fun (cs : Array Value) (x : Value × Nat) => cs.setIfInBounds (off + x.2) x.1) cs).toList := by
          refine Reps.mk ?_ fun j c hj => ?_
          · rw [splice_length (by omega), Array.length_toList, fill_size]; omega
          · rw [splice_get (by omega)] at hj
            rw [Array.getElem?_toList, fill_get (by omega)]
            split at hj
            · rw [if_pos (by omega)]
              have := hcr.get hj
              simpa using this
            · rw [if_neg (by omega)]
              have := hr.get hj
              simpa using this
        obtain ⟨r, x1, x2⟩ := fillL_sound hR hpl hp hgo h
        refine ⟨r, ?_, x2⟩
        have hcond' : (decide (v.cells.size ≠ size) || decide (off + v.cells.size > cs.size)) = false := by simp; omega
        simp only [ne_eq, decide_not, gt_iff_lt] at hcond'
        simp only [hplace, hvs]
        rw [if_neg (by simp; omega)]
        exact x1
      · simp at h
  | [], _ :: _, _, _, _, hp, _, _ => hp.elim
  | _ :: _, [], _, _, _, hp, _, _ => hp.elim

theorem placesOf_spec (w : World) : ∀ {fs : List Field} {l : List (Nat × Nat)}, placesOf P fs = some l → (fs.mapM fun f => (do pure (f.offset, ← sizeOf f.type) : Sem (Nat × Nat))).run P w = .ok l w
  | [], l, h => by simp [placesOf] at h; subst h; simp
  | f :: fs, l, h => by
    simp only [placesOf] at h
    split at h
    · rename_i s l' hs hl'
      cases h
      have ih := placesOf_spec w hl'
      simp only [bind_pure_comp] at ih
      simp [run_size hs, ih]
    · simp at h

theorem evBuild_sound (hR : R α st w) {T : TypeId} {parts : List (Nat × SA)} {vs : Array (Nat × Value)} {out : List SC} (hp : RepsP α parts vs.toList) (h : evBuild P T parts = some out) :
    ∃ v, (Instr.build T vs).run P w = .ok v w ∧ (SA.agg out).rep α v := by
  unfold evBuild at h
  split at h
  · rename_i z fs hz hu
    split at h
    · rename_i pl hpl
      obtain ⟨r, x1, x2⟩ := fillL_sound (pl' := fun i => pl.toArray[i]?) hR (by simp) hp (Reps.raw z.cells.toList) h
      refine ⟨.agg r, ?_, r.toList, x2, by simp⟩
      have hm := placesOf_spec w hpl
      have hm' : (fs.mapM fun f => (do pure (f.offset, ← sizeOf f.type) : Sem (Nat × Nat))).run P w = .ok pl.toArray w := by
        rw [Array.mapM_eq_mapM_toList]
        simp only [Sem.run_map, hm, Result.andThen_ok]
      simp only [Instr.build, Sem.run_bind, run_zero hz, Result.andThen_ok, run_under hu, hm', x1]
      rfl
    · simp at h
  · rename_i z n e hz hu
    split at h
    · rename_i s hs
      obtain ⟨r, x1, x2⟩ := fillL_sound (pl' := fun i => some (i * s, s)) hR (fun _ => rfl) hp (Reps.raw z.cells.toList) h
      refine ⟨.agg r, ?_, r.toList, x2, by simp⟩
      simp only [Instr.build, Sem.run_bind, run_zero hz, Result.andThen_ok, run_under hu, run_size hs, x1]
      rfl
    · simp at h
  · simp at h

end Go.Ev

/- THE ENGINE, part 6: slices written out; addresses; comparisons; slicing; function values; maps made. -/
namespace Go.Ev
open Go
variable {P : Program} {α : Al} {st : St} {w : World}

def Flat (α : Al) (s : Nat) (vs : List (List SC)) (cs : Array Value) : Prop := cs.size = vs.length * s ∧ (Ct.lst vs).Cells α s fun i j => cs[i * s + j]?

theorem mul_lt_of {i n s : Nat} (h : i < n) : i * s + s ≤ n * s := by
  have := Nat.mul_le_mul_right s (show i + 1 ≤ n from h)
  rw [Nat.succ_mul] at this; exact this

theorem fillS_sound (hR : R α st w) {s : Nat} : ∀ {parts : List (Nat × SA)} {ps : List (Nat × Value)} {vs out : List (List SC)} {cs : Array Value},
    RepsP α parts ps → Flat α s vs cs → fillS s vs parts = some out → ∃ r : Array Value, Instr.fill (fun i => some (i * s, s)) cs ps = some r ∧ Flat α s out r ∧ out.length = vs.length
  | [], [], vs, out, cs, _, hf, h => by simp [fillS] at h; subst h; exact ⟨cs, rfl, hf, rfl⟩
  | (i, a) :: parts, (i', v) :: ps, vs, out, cs, hp, hf, h => by
    obtain ⟨⟨rfl, ha⟩, hp⟩ := hp
    simp only [fillS, lenL_eq, setL_eq] at h
    split at h
    · rename_i hc
      obtain ⟨h1, h2, h3⟩ := hc
      have hcr := SA.cells_rep hR ha h3
      have hvs : v.cells.size = s := by rw [← h1, ← hcr.length]; simp
      have hcell := hcr.isCell hR.cell (allCells_spec h3)
      have hin := mul_lt_of (s := s) h2
      have hsz := hf.1
      have hgo : Flat α s (vs.set i a.cells) (v.cells.zipIdx.foldl (fun (cs : Array Value) (x : Value × Nat) => cs.setIfInBounds (i * s + x.2) x.1) cs) := by
        refine ⟨by rw [fill_size]; simpa using hsz, fun i1 hi1 => ?_⟩
        simp only [Ct.len, List.length_set] at hi1
        have hold := hf.2 i1 hi1
        simp only [Ct.get, getL_eq, List.getElem?_set] at hold ⊢
        by_cases e : i = i1
        · subst e
          rw [if_pos rfl, if_pos h2]
          simp only [Option.getD_some]
          refine ⟨h1, fun j c hj => ?_⟩
          have hjs : j < s := by rw [← h1]; exact (List.getElem?_eq_some_iff.1 hj).1
          rw [fill_get (by omega), if_pos (by omega), show i * s + j - i * s = j from by omega]
          have := hcr.get hj
          obtain ⟨u, x1, x2⟩ := this
          exact ⟨u, x2, by simpa using x1, hcell u (List.mem_of_getElem? x1)⟩
        · rw [if_neg e]
          refine ⟨hold.1, fun j c hj => ?_⟩
          have hjs : j < s := by rw [← hold.1]; exact (List.getElem?_eq_some_iff.1 hj).1
          obtain ⟨u, x1, x2, x3⟩ := hold.2 j c hj
          refine ⟨u, x1, ?_, x3⟩
          rw [fill_get (by omega), if_neg ?_]
          · exact x2
          · rcases Nat.lt_or_gt_of_ne e with hlt | hgt
            · have := mul_lt_of (s := s) hlt; omega
            · have := mul_lt_of (s := s) hgt; omega
      obtain ⟨r, x1, x2, x3⟩ := fillS_sound hR hp hgo h
      refine ⟨r, ?_, x2, by simpa using x3⟩
      simp only [Instr.fill]
      rw [if_neg (by simp; omega)]
      exact x1
    · simp at h
  | [], _ :: _, _, _, _, hp, _, _ => hp.elim
  | _ :: _, [], _, _, _, hp, _, _ => hp.elim

theorem flat_zero {α : Al} {s : Nat} (len : Nat) (z : Array Value) (hz : z.size = s) (hcz : allCells (z.toList.map .raw) = true) :
    Flat α s (List.replicate len (z.toList.map SC.raw)) ((Array.range (len * s)).map fun i => z[i % z.size]!) := by
  refine ⟨by simp, fun i hi => ?_⟩
  simp only [Ct.len, List.length_replicate] at hi
  have hin := mul_lt_of (s := s) hi
  simp only [Ct.get, getL_eq, List.getElem?_replicate, hi, if_true, Option.getD_some]
  refine ⟨by simpa using hz, fun j c hj => ?_⟩
  simp only [List.getElem?_map] at hj
  cases hv : z.toList[j]? with
  | none => simp [hv] at hj
  | some v =>
    simp [hv] at hj
    subst hj
    have hjs : j < z.size := by have := (List.getElem?_eq_some_iff.1 hv).1; simpa using this
    refine ⟨v, rfl, ?_, allCells_spec hcz (.raw v) (List.mem_map.2 ⟨v, List.mem_of_getElem? hv, rfl⟩)⟩
    have hlt : i * s + j < len * s := by omega
    have hmod : (i * s + j) % z.size = j := by rw [hz, Nat.mul_comm, Nat.mul_add_mod]; exact Nat.mod_eq_of_lt (by omega)
    simp only [Array.getElem?_map, Array.getElem?_range, hlt, if_true, Option.map_some, hmod]
    congr 1
    rw [Array.getElem?_toList] at hv
    rw [getElem!_pos z j hjs]
    rw [Array.getElem?_eq_getElem hjs] at hv
    exact Option.some.inj hv

theorem evBuildSlice_sound (hR : R α st w) {T : TypeId} {len : Nat} {parts : List (Nat × SA)} {ps : Array (Nat × Value)} {k : SV → St → Prop} (hp : RepsP α parts ps.toList)
    (h : evBuildSlice P T len parts st k) : Got P α st w (Instr.buildSlice T len ps) k := by
  unfold evBuildSlice at h
  split at h
  · rename_i e hu
    split at h
    · rename_i z s hz hs
      split at h
      · rename_i hd
        have hd : 0 < s ∧ z.cells.size = s ∧ len * s ≤ 2 ^ 24 ∧ allCells (z.cells.toList.map .raw) = true := by simpa using hd
        obtain ⟨vs, hvs, hk⟩ := opt_iff.1 h
        rw [repL_eq] at hvs
        obtain ⟨r, x1, x2, x3⟩ := fillS_sound hR hp (flat_zero len z.cells hd.2.1 hd.2.2.2) hvs
        have hlen : vs.length = len := by simpa using x3
        have hsz : r.size = len * s := by rw [x2.1, hlen]
        have hto := To.row (T := e) (mk := .whole) (cap := len) (ct := .lst vs) (cs := r) hR (by simp) hd.1 (.inl rfl) (by omega) (by simp [Ct.len, hlen]) (fun _ => by simp [Ct.len, hlen]) x2.2
        refine ⟨.slice (some ⟨w.heap.size, 0, none⟩) len len, _, _, _, _, ?_, ?_, hk, hto⟩
        · have hn : ¬ (len * s > 2 ^ 24) := by omega
          by_cases h0 : len * s = 0
          · have hl0 : len = 0 := by
              rcases Nat.mul_eq_zero.1 h0 with h | h
              · exact h
              · omega
            subst hl0
            have he : ∀ f : Nat → Value, (Array.range (0 * s)).map f = #[] := fun f => Array.eq_empty_of_size_eq_zero (by simp)
            rw [he] at x1
            simp only [Instr.buildSlice, Sem.run_bind, run_under hu, Result.andThen_ok, run_size hs, he]
            simp [x1, newRow]
          · simp only [Instr.buildSlice, Sem.run_bind, run_under hu, Result.andThen_ok, run_size hs]
            simp [hn, h0, run_zero hz, x1, newRow]
        · simp [SV.rep, SA.rep, SC.val?, Al.add_same]
      · exact h.elim
    · exact h.elim
  · exact h.elim

/-! ### addresses -/
def nilSem : Value → Sem Next
  | .pointer none | .nilIface | .nilFunc => runtimePanic .nilDeref
  | .func (.method name) first captured =>
    match (first[0]? : Option Value) with
    | some .nilIface => runtimePanic .nilDeref
    | some (.iface t w) => do
      if (← nilAhead ((← program).types.size + Made.depth) t w name) != some false then
        unsupported (.noEntry "op/nilCheck.the method's receiver behind this interface value is a nil pointer, or cannot be seen to be none, and the arguments act or may panic (ledger 612)")
      pure (.value (.func (.method name) first captured))
    | _ => pure (.value (.func (.method name) first captured))
  | x => pure (.value x)

theorem evNilCheck_sound {a b : SA} {v : Value} (hR : R α st w) (ha : a.rep α v) (h : evNilCheck a st = some b) :
    b.rep α v ∧ (nilSem v).run P w = .ok (.value v) w := by
  unfold evNilCheck at h
  split at h
  · cases h
    refine ⟨ha, ?_⟩
    simp only [SA.rep, SC.val?] at ha
    split at ha <;> simp at ha
    subst ha
    rfl
  · rename_i o
    split at h
    · rename_i f a1 b1 hst
      cases h
      refine ⟨ha, ?_⟩
      obtain ⟨d, hd, va, vb, x1, x2, x3⟩ := hR.good o _ hst
      simp only [SA.rep, SC.val?, hd, Option.some.injEq] at ha
      rw [x3] at ha
      subst ha
      rfl
    · rename_i hst
      cases h
      refine ⟨ha, ?_⟩
      obtain ⟨d, hd, x3, _⟩ := hR.good o _ hst
      simp only [SA.rep, SC.val?, hd, Option.some.injEq] at ha
      rw [x3] at ha
      subst ha
      rfl
    · simp at h
  · cases h
    refine ⟨ha, ?_⟩
    simp only [SA.rep, SC.val?, Option.some.injEq] at ha
    subst ha
    rfl
  · simp at h

theorem evFieldAddr_sound {S : TypeId} {a b : SA} {v : Value} {f : Nat} (ha : a.rep α v) (h : evFieldAddr P S a f = some b) :
    ∃ u, (Instr.fieldAt S v f).run P w = .ok u w ∧ b.rep α u := by
  unfold evFieldAddr at h
  split at h
  · rename_i o i j fs hu
    split at h
    · rename_i fd hfd
      split at h
      · rename_i n hs
        cases h
        simp only [SA.rep, SC.val?] at ha
        split at ha
        · rename_i d hd
          simp at ha
          subst ha
          have hfd' : fs[f]? = some fd := by simpa using hfd
          refine ⟨.pointer (some ⟨d.blk, d.off + i * d.m + j + fd.offset, none⟩), ?_, by simp [SA.rep, SC.val?, hd, Nat.add_assoc]⟩
          simp [Instr.fieldAt, run_under hu, hfd', Instr.sureAddr, fieldPlace, run_size hs, addr_add]
        · simp at ha
      · simp at h
    · simp at h
  · simp at h

theorem readAt_agg {T : TypeId} {l : List SC} {vs : List Value} {off : Nat} {a : SA} (hr : Reps α l vs) (h : readAt P T l off = some a) :
    ∃ v, (part T vs.toArray off).run P w = .ok v w ∧ a.rep α v := by
  unfold readAt at h
  have hl := hr.length
  cases hA : tIsAgg P T with
  | none => simp [hA] at h
  | some g =>
    have hA' := run_isAgg' hA w
    cases g with
    | true =>
      cases hs : tSize P T with
      | none => simp [hA, hs] at h
      | some s =>
        simp only [hA, hs, lenL_eq, takeL_eq, dropL_eq] at h
        split at h
        · cases h
          refine ⟨.agg ((vs.drop off).take s).toArray, ?_, _, (hr.drop off).take s, rfl⟩
          simp only [part, Sem.run_bind, hA', Result.andThen_ok, if_true, run_size hs, Sem.run_pure]
          congr 2
          simp [List.take_drop]
        · simp at h
    | false =>
      simp only [hA, lenL_eq, getL_eq] at h
      split at h
      · rename_i hlt
        cases h
        obtain ⟨v, h1, h2⟩ := hr.get (i := off) (c := l[off]) (by simp [hlt])
        refine ⟨v, ?_, by simpa [SA.rep, hlt] using h2⟩
        simp [part, hA', h1]
      · simp at h

theorem evField_sound {T : TypeId} {a b : SA} {v : Value} {f : Nat} (ha : a.rep α v) (h : evField P T a f = some b) :
    ∃ u, (Instr.field T v f).run P w = .ok u w ∧ b.rep α u := by
  unfold evField at h
  split at h
  · rename_i l fs hu
    split at h
    · rename_i fd hfd
      obtain ⟨vs, hr, rfl⟩ := ha
      obtain ⟨u, x1, x2⟩ := readAt_agg (w := w) hr h
      have hfd' : fs[f]? = some fd := by simpa using hfd
      exact ⟨u, by simp [Instr.field, run_under hu, hfd', asAgg, x1], x2⟩
    · simp at h
  · simp at h

theorem evIndexAddr_sound {T : TypeId} {x ix : SA} {xv iv : Value} {k : SV → Prop} (hR : R α st w) (hx : x.rep α xv) (hi : ix.rep α iv) (h : evIndexAddr P T st x ix k) :
    ∃ sv v, (Instr.indexAt T xv iv).run P w = .ok v w ∧ sv.rep α v ∧ k sv := by
  unfold evIndexAddr at h
  split at h
  · rename_i e o i n c kk z hu
    split at h
    · rename_i wb mk T' m ct s hst hs
      split at h
      · rename_i hms
        have hms : m = s := by simpa using hms
        obtain ⟨h1, h⟩ := need_iff.1 h
        obtain ⟨h2, h⟩ := need_iff.1 h
        have h1 : 0 ≤ z := by simpa using h1
        have h2 : z < n := by simpa using h2
        obtain ⟨d, hd, hg⟩ := hR.good o _ hst
        have hdm : d.m = m := hg.1
        simp only [SA.rep, SC.val?, hd, Option.some.injEq] at hx hi
        subst hx; subst hi
        refine ⟨_, .pointer (some ⟨d.blk, d.off + i * d.m + z.toNat * s, none⟩), ?_, ?_, h⟩
        · simp [Instr.indexAt, asIntOf, run_under hu, h1, h2, run_size hs, addr_add]
        · simp only [SV.rep, SA.rep, SC.val?, hd, Nat.add_zero]
          rw [hdm, hms, Nat.add_mul]
          simp [Nat.add_assoc]
      · exact h.elim
    · exact h.elim
  · rename_i len e o i j kk z hu
    split at h
    · rename_i wb mk T' m ct s hst hs
      obtain ⟨d, hd, hg⟩ := hR.good o _ hst
      have hdm : d.m = m := hg.1
      simp only [SA.rep, SC.val?, hd, Option.some.injEq] at hx hi
      subst hx; subst hi
      have run : ∀ (h1 : 0 ≤ z) (h2 : z < len), (Instr.indexAt T (.pointer (some ⟨d.blk, d.off + i * d.m + j, none⟩)) (.int kk z)).run P w = .ok (.pointer (some ⟨d.blk, d.off + i * d.m + j + z.toNat * s, none⟩)) w := by
        intro h1 h2
        simp [Instr.indexAt, asIntOf, run_under hu, Instr.sureAddr, h1, h2, run_size hs, addr_add]
      split at h
      · rename_i hmj
        have hmj : m = s ∧ j = 0 := by simpa using hmj
        obtain ⟨h1, h⟩ := need_iff.1 h
        obtain ⟨h2, h⟩ := need_iff.1 h
        refine ⟨_, _, run (by simpa using h1) (by simpa using h2), ?_, h⟩
        simp only [SV.rep, SA.rep, SC.val?, hd, hmj.2, Nat.add_zero]
        rw [hdm, hmj.1, Nat.add_mul]
        simp [Nat.add_assoc]
      · obtain ⟨h1, h⟩ := need_iff.1 h
        obtain ⟨h2, h⟩ := need_iff.1 h
        refine ⟨_, _, run (by simpa using h1) (by simpa using h2), ?_, h⟩
        simp only [SV.rep, SA.rep, SC.val?, hd]
        simp [Nat.add_assoc]
    · exact h.elim
  · exact h.elim

theorem evIndex_sound {T : TypeId} {x ix : SA} {xv iv : Value} {k : SV → Prop} (hx : x.rep α xv) (hi : ix.rep α iv) (h : evIndex P T x ix k) :
    ∃ sv v, (Instr.index T xv iv).run P w = .ok v w ∧ sv.rep α v ∧ k sv := by
  unfold evIndex at h
  split at h
  · rename_i len e l kk z hu
    split at h
    · rename_i s hs
      obtain ⟨h1, h⟩ := need_iff.1 h
      obtain ⟨h2, h⟩ := need_iff.1 h
      obtain ⟨a, hr, h⟩ := opt_iff.1 h
      have h1 : 0 ≤ z := by simpa using h1
      have h2 : z < len := by simpa using h2
      obtain ⟨vs, hvs, rfl⟩ := hx
      simp only [SA.rep, SC.val?, Option.some.injEq] at hi
      subst hi
      obtain ⟨v, x1, x2⟩ := readAt_agg (w := w) hvs hr
      exact ⟨.sa a, v, by simp [Instr.index, asIntOf, run_under hu, h1, h2, run_size hs, x1], x2, h⟩
    · exact h.elim
  · rename_i s kk z hu
    obtain ⟨h1, h⟩ := need_iff.1 h
    obtain ⟨h2, h⟩ := need_iff.1 h
    have h1 : 0 ≤ z := by simpa using h1
    have h2 : z.toNat < s.size := by simpa using h2
    simp only [SA.rep, SC.val?, Option.some.injEq] at hx hi
    subst hx; subst hi
    refine ⟨.sa (.one (.raw (.int .u8 (getL (0 : UInt8) s.data.toList z.toNat).toNat))), .int .u8 (getL (0 : UInt8) s.data.toList z.toNat).toNat, ?_, rfl, h⟩
    · have hb : s[z.toNat]? = some (getL (0 : UInt8) s.data.toList z.toNat) := by
        rw [getElem?_pos s z.toNat h2, getL_eq, Array.getElem?_toList, Array.getElem?_eq_getElem (show z.toNat < s.data.size from h2)]
        rfl
      simp [Instr.index, asIntOf, run_under hu, h1, hb]
  · exact h.elim

end Go.Ev

/- THE ENGINE, part 7: comparisons and numbers; slicing; function values; maps made. -/
namespace Go.Ev
open Go
variable {P : Program} {α : Al} {st : St} {w : World}

/-! ### comparisons and numbers -/
theorem rawL_spec : ∀ {l : List SC} {vs us : List Value}, rawL l = some vs → Reps α l us → us = vs
  | [], vs, us, h, r => by
    simp [rawL] at h; subst h
    cases us with | nil => rfl | cons _ _ => exact r.elim
  | .raw v :: l, vs, us, h, r => by
    simp only [rawL] at h
    split at h
    · rename_i l' hl
      cases h
      cases us with
      | nil => exact r.elim
      | cons u us =>
        have h1 := r.1
        simp [SC.val?] at h1
        subst h1
        rw [rawL_spec hl r.2]
    · simp at h
  | .ptr _ _ _ :: l, vs, us, h, r => by simp [rawL] at h
  | .sl _ _ _ _ :: l, vs, us, h, r => by simp [rawL] at h
  | .ref _ :: l, vs, us, h, r => by simp [rawL] at h

theorem eq_ptr_nil {T e : TypeId} (hu : P.underlying T = some (.pointer e)) (p : Addr) (w : World) : (Op.equal T (.pointer (some p)) (.pointer none)).run P w = .ok false w := by
  show (Op.equalIn (9999 + 1) T _ _).run P w = _
  unfold Op.equalIn
  simp only [Sem.run_bind, run_under hu, Result.andThen_ok]
  rfl
theorem eq_nil_ptr {T e : TypeId} (hu : P.underlying T = some (.pointer e)) (p : Addr) (w : World) : (Op.equal T (.pointer none) (.pointer (some p))).run P w = .ok false w := by
  show (Op.equalIn (9999 + 1) T _ _).run P w = _
  unfold Op.equalIn
  simp only [Sem.run_bind, run_under hu, Result.andThen_ok]
  rfl
theorem eq_sl_nil {T e : TypeId} (hu : P.underlying T = some (.slice e)) (p : Addr) (n c m k : Nat) (w : World) : (Op.equal T (.slice (some p) n c) (.slice none m k)).run P w = .ok false w := by
  show (Op.equalIn (9999 + 1) T _ _).run P w = _
  unfold Op.equalIn
  simp only [Sem.run_bind, run_under hu, Result.andThen_ok]
  rfl
theorem eq_fn_nil {T : TypeId} {x y : Array TypeId} {z : Bool} (hu : P.underlying T = some (.func x y z)) (f : Fn) (a b : Array Value) (w : World) : (Op.equal T (.func f a b) .nilFunc).run P w = .ok false w := by
  show (Op.equalIn (9999 + 1) T _ _).run P w = _
  unfold Op.equalIn
  simp only [Sem.run_bind, run_under hu, Result.andThen_ok]
  rfl
theorem eq_map_nil {T x y : TypeId} (hu : P.underlying T = some (.map x y)) (r : Nat) (w : World) : (Op.equal T (.map (some r)) (.map none)).run P w = .ok false w := by
  show (Op.equalIn (9999 + 1) T _ _).run P w = _
  unfold Op.equalIn
  simp only [Sem.run_bind, run_under hu, Result.andThen_ok]
  rfl

theorem eq_sl_nil' {T e : TypeId} (hu : P.underlying T = some (.slice e)) (p : Addr) (n c m k : Nat) (w : World) : (Op.equal T (.slice (some p) n c) (.slice none m k)).run P w = .ok false w := eq_sl_nil hu p n c m k w

theorem run_eqGuard_plain {op : BinOp} {T : TypeId} {xo yo : Operand} {a b : Value} (h2 : a ≠ .nilIface) (h3 : ∀ c, a ≠ .agg c) : (eqGuard op T xo yo a b).run P w = .ok () w := by
  unfold eqGuard
  cases op <;> cases a <;> first | (exact absurd rfl h2) | (exact absurd rfl (h3 _)) | rfl

theorem evNil_spec {a b : SC} {av bv : Value} {T : TypeId} {d : TypeDesc} (hR : R α st w) (ha : a.val? α = some av) (hb : b.val? α = some bv) (hu : P.underlying T = some d) (h : evNil st d a b = true) :
    (∀ op xo yo, (eqGuard op T xo yo av bv).run P w = .ok () w) ∧ (Op.equal T av bv).run P w = .ok false w ∧
    (∀ k x, av ≠ .int k x) ∧ (∀ k x, av ≠ .float k x) ∧ (∀ k x y, av ≠ .complex k x y) ∧ (∀ s, av ≠ .string s) := by
  unfold evNil at h
  split at h
  · rename_i e o i j
    simp only [SC.val?, Option.some.injEq] at ha hb
    split at ha <;> simp at ha
    subst ha; subst hb
    exact ⟨fun _ _ _ => run_eqGuard_plain (by simp) (by simp), eq_ptr_nil hu _ w, by simp, by simp, by simp, by simp⟩
  · rename_i e o i j
    simp only [SC.val?, Option.some.injEq] at ha hb
    split at hb <;> simp at hb
    subst ha; subst hb
    exact ⟨fun _ _ _ => run_eqGuard_plain (by simp) (by simp), eq_nil_ptr hu _ w, by simp, by simp, by simp, by simp⟩
  · rename_i e o i n c m k
    simp only [SC.val?, Option.some.injEq] at ha hb
    split at ha <;> simp at ha
    subst ha; subst hb
    exact ⟨fun _ _ _ => run_eqGuard_plain (by simp) (by simp), eq_sl_nil hu _ _ _ _ _ w, by simp, by simp, by simp, by simp⟩
  · split at h
    · rename_i hst
      obtain ⟨d, hd, e', a, c, x1, x3, _⟩ := hR.good _ _ hst
      simp only [SC.val?, hd, Option.some.injEq] at ha hb
      rw [x3] at ha
      subst ha; subst hb
      exact ⟨fun _ _ _ => run_eqGuard_plain (by simp) (by simp), eq_sl_nil hu _ _ _ _ _ w, by simp, by simp, by simp, by simp⟩
    · simp at h
  · split at h
    · rename_i hst
      obtain ⟨d, hd, va, vb, x1, x2, x3⟩ := hR.good _ _ hst
      simp only [SC.val?, hd, Option.some.injEq] at ha hb
      rw [x3] at ha
      subst ha; subst hb
      exact ⟨fun _ _ _ => run_eqGuard_plain (by simp) (by simp), eq_fn_nil hu _ _ _ w, by simp, by simp, by simp, by simp⟩
    · simp at h
  · split at h
    · rename_i hst
      obtain ⟨d, hd, x3, _⟩ := hR.good _ _ hst
      simp only [SC.val?, hd, Option.some.injEq] at ha hb
      rw [x3] at ha
      subst ha; subst hb
      exact ⟨fun _ _ _ => run_eqGuard_plain (by simp) (by simp), eq_map_nil hu _ w, by simp, by simp, by simp, by simp⟩
    · simp at h
  · simp at h

theorem evBin_sound {op : BinOp} {T : TypeId} {xo yo : Operand} {x y : SA} {xv yv : Value} {k : SV → Prop} (hR : R α st w) (hx : x.rep α xv) (hy : y.rep α yv) (h : evBin P op T xo yo st x y k) :
    ∃ sv v, (do eqGuard op T xo yo xv yv; binOp op T xv yv : Sem Value).run P w = .ok v w ∧ sv.rep α v ∧ k sv := by
  unfold evBin at h
  split at h
  · rename_i a b
    simp only [SA.rep, SC.val?, Option.some.injEq] at hx hy
    subst hx; subst hy
    split at h
    · rename_i ka x kb y
      split at h
      · rename_i hk
        have hk : ka = kb := by simpa using hk
        subst hk
        obtain ⟨h1, h⟩ := need_iff.1 h
        have h1 : ¬ y = 0 := by simpa using h1
        exact ⟨.sa (.one (.raw (.int ka (ka.wrap (x.tdiv y))))), .int ka (ka.wrap (x.tdiv y)), by simp [eqGuard, binOp, Op.intDiv, h1], rfl, h⟩
      · exact h.elim
    · rename_i ka x kb y
      split at h
      · rename_i hk
        have hk : ka = kb := by simpa using hk
        subst hk
        obtain ⟨h1, h⟩ := need_iff.1 h
        have h1 : ¬ y = 0 := by simpa using h1
        exact ⟨.sa (.one (.raw (.int ka (x.tmod y)))), .int ka (x.tmod y), by simp [eqGuard, binOp, Op.intDiv, h1], rfl, h⟩
      · exact h.elim
    · rename_i ka x kb y
      obtain ⟨h1, h⟩ := need_iff.1 h
      have h1 : ¬ y < 0 := by have : 0 ≤ y := by simpa using h1
                              omega
      exact ⟨.sa (.one (.raw (.int ka (ka.wrap (x * 2 ^ (min y.toNat ka.bits)))))), .int ka (ka.wrap (x * 2 ^ (min y.toNat ka.bits))), by simp [eqGuard, binOp, Op.shift, h1], rfl, h⟩
    · rename_i ka x kb y
      obtain ⟨h1, h⟩ := need_iff.1 h
      have h1 : ¬ y < 0 := by have : 0 ≤ y := by simpa using h1
                              omega
      exact ⟨.sa (.one (.raw (.int ka (x.fdiv (2 ^ (min y.toNat ka.bits)))))), .int ka (x.fdiv (2 ^ (min y.toNat ka.bits))), by simp [eqGuard, binOp, Op.shift, h1], rfl, h⟩
    · obtain ⟨r, hr, h⟩ := opt_iff.1 h
      exact ⟨.sa (.one (.raw r)), r, pureSem_run hr w, rfl, h⟩
  · rename_i a b hne
    simp only [SA.rep] at hx hy
    split at h
    · rename_i d hu
      split at h
      · rename_i hnil
        obtain ⟨h1, h2, h3, h4, h5, h6⟩ := evNil_spec hR hx hy hu hnil
        split at h
        · refine ⟨.sa (.one (.raw (.bool false))), .bool false, ?_, rfl, h⟩
          simp only [Sem.run_bind, h1, Result.andThen_ok]
          unfold binOp
          split <;> first | (simp_all; done) | simp [h2]
        · refine ⟨.sa (.one (.raw (.bool true))), .bool true, ?_, rfl, h⟩
          simp only [Sem.run_bind, h1, Result.andThen_ok]
          unfold binOp
          split <;> first | (simp_all; done) | simp [h2]
        · exact h.elim
      · exact h.elim
    · exact h.elim
  · rename_i a b
    split at h
    · rename_i a' b' ha hb
      obtain ⟨r, hr, h⟩ := opt_iff.1 h
      obtain ⟨vs, r1, rfl⟩ := hx
      obtain ⟨us, r2, rfl⟩ := hy
      rw [rawL_spec ha r1, rawL_spec hb r2]
      exact ⟨.sa (.one (.raw r)), r, pureSem_run hr w, rfl, h⟩
    · exact h.elim
  · exact h.elim

/-! ### slicing -/
theorem evBound_sound {d : Nat} {x : Option SA} {xv : Option Value} {top : Nat} {k : Nat → Prop} (hx : match x, xv with | some a, some v => a.rep α v | none, none => True | _, _ => False)
    (h : evBound d x top k) : ∃ n, k n ∧ (match xv with | none => n = d | some v => n ≤ top ∧ ∀ t code, top ≤ t → (Instr.sliceBound v t code).run P w = .ok n w) := by
  unfold evBound at h
  split at h
  · cases xv with
    | none => exact ⟨d, h, rfl⟩
    | some v => exact hx.elim
  · rename_i kk z
    cases xv with
    | none => exact hx.elim
    | some v =>
      simp only [SA.rep, SC.val?, Option.some.injEq] at hx
      subst hx
      obtain ⟨h1, h⟩ := need_iff.1 h
      obtain ⟨h2, h⟩ := need_iff.1 h
      have h1 : 0 ≤ z := by simpa using h1
      have h2 : z ≤ top := by simpa using h2
      refine ⟨z.toNat, h, by omega, fun t code ht => ?_⟩
      have h3 : z ≤ t := by omega
      simp [Instr.sliceBound, asIntOf, h1, h3]
  · exact h.elim

def RepO (α : Al) : Option SA → Option Value → Prop
  | some a, some v => a.rep α v
  | none, none => True
  | _, _ => False

theorem evBound_spec {d : Nat} {x : Option SA} {xv : Option Value} {top : Nat} {k : Nat → Prop} (hx : RepO α x xv) (h : evBound d x top k) :
    ∃ n, k n ∧ ((xv = none ∧ n = d) ∨ (n ≤ top ∧ ∃ v, xv = some v ∧ ∀ t code, n ≤ t → (Instr.sliceBound v t code).run P w = .ok n w)) := by
  unfold evBound at h
  split at h
  · cases xv with
    | none => exact ⟨d, h, .inl ⟨rfl, rfl⟩⟩
    | some v => exact hx.elim
  · rename_i kk z
    cases xv with
    | none => exact hx.elim
    | some v =>
      simp only [RepO, SA.rep, SC.val?, Option.some.injEq] at hx
      subst hx
      obtain ⟨h1, h⟩ := need_iff.1 h
      obtain ⟨h2, h⟩ := need_iff.1 h
      have h1 : 0 ≤ z := by simpa using h1
      have h2 : z ≤ top := by simpa using h2
      refine ⟨z.toNat, h, .inr ⟨by omega, _, rfl, fun t code ht => ?_⟩⟩
      have h3 : z ≤ t := by omega
      simp [Instr.sliceBound, asIntOf, h1, h3]
  · exact h.elim

/-- The two bounds of a slice expression, run. -/
theorem bounds_run {isSlice : Bool} {n cap top : Nat} {lo hi : Option SA} {lv hv : Option Value} {k : Nat → Nat → Prop} (hlo : RepO α lo lv) (hhi : RepO α hi hv) (htop : top ≤ cap)
    (h : evBound n hi top fun h => evBound 0 lo h fun l => k h l) :
    ∃ h l, k h l ∧ (hi = none → h = n) ∧ (hi.isSome = true → h ≤ top) ∧ (l ≤ h ∨ l = 0) ∧ (Instr.sliceBounds isSlice n cap lv hv none).run P w = .ok (l, h, cap) w := by
  obtain ⟨r, h, hr⟩ := evBound_spec (P := P) (w := w) hhi h
  obtain ⟨l, h, hl⟩ := evBound_spec (P := P) (w := w) hlo h
  refine ⟨r, l, h, ?_, ?_, ?_, ?_⟩
  · rintro rfl
    rcases hr with ⟨_, hr⟩ | ⟨_, v, rfl, _⟩
    · exact hr
    · exact hhi.elim
  · intro hs
    rcases hr with ⟨rfl, hr⟩ | ⟨hr, _⟩
    · cases hi with
      | none => simp at hs
      | some a => exact hhi.elim
    · exact hr
  · rcases hl with ⟨_, hl⟩ | ⟨hl, _⟩
    · exact .inr hl
    · exact .inl hl
  · rcases hr with ⟨rfl, rfl⟩ | ⟨hr, v, rfl, hv⟩ <;> rcases hl with ⟨rfl, rfl⟩ | ⟨hl, u, rfl, hu⟩
    · simp [Instr.sliceBounds]
    · simp [Instr.sliceBounds, hu _ _ hl]
    · simp [Instr.sliceBounds, hv cap _ (by omega)]
    · simp [Instr.sliceBounds, hv cap _ (by omega), hu _ _ hl]

theorem evSlice_sound {T : TypeId} {x : SA} {xv : Value} {lo hi : Option SA} {lv hv : Option Value} {k : SV → St → Prop} (hR : R α st w) (hx : x.rep α xv)
    (hlo : RepO α lo lv) (hhi : RepO α hi hv) (h : evSlice P T st x lo hi k) : Got P α st w (Instr.sliceAt T xv lv hv none) k := by
  unfold evSlice at h
  split at h
  · -- a slice whose capacity is known
    rename_i e o i n c hu
    split at h
    · rename_i wb mk T' m ct s hst hs
      split at h
      · rename_i hms
        have hms : m = s := by simpa using hms
        obtain ⟨d, hd, hg⟩ := hR.good o _ hst
        have hdm : d.m = m := hg.1
        simp only [SA.rep, SC.val?, hd, Option.some.injEq, Option.getD_some] at hx
        subst hx
        obtain ⟨r, l, h, h1, h2, h3, h4⟩ := bounds_run (P := P) (w := w) (isSlice := true) (cap := c) hlo hhi (Nat.le_refl _) h
        obtain ⟨hb, h⟩ := need_iff.1 h
        obtain ⟨hc, h⟩ := need_iff.1 h
        have hb : i + l ≤ ct.len := by simpa using hb
        have hc : r ≤ c := by simpa using hc
        have hrun : (Instr.sliceAt T (.slice (some ⟨d.blk, d.off + i * d.m, none⟩) n c) lv hv none).run P w =
            .ok (.slice (some (if c = l then ⟨d.blk, d.off + i * d.m, none⟩ else ⟨d.blk, d.off + i * d.m + l * s, none⟩)) (r - l) (c - l)) w := by
          simp only [Instr.sliceAt, Sem.run_bind, run_under hu, Result.andThen_ok, Instr.slice, h4, run_size hs]
          split <;> simp [addr_add]
        unfold cutKnown at h
        rcases branch_or h with ⟨he, h⟩ | ⟨he, h⟩
        · have he : c = l := by simpa using he
          rw [if_pos he] at hrun
          refine Got.pure hR hrun ?_ h
          simp only [SV.rep, SA.rep, SC.val?, hd, Option.getD_some]
          rw [show r - l = 0 from by omega, show c - l = 0 from by omega]
        · have he : ¬ c = l := by simpa using he
          rw [if_neg he] at hrun
          refine Got.pure hR hrun ?_ h
          simp only [SV.rep, SA.rep, SC.val?, hd, Option.getD_some, hdm, hms, Nat.add_mul, Nat.add_assoc]
      · exact h.elim
    · exact h.elim
  · -- a slice up to its row's end
    rename_i e o i n hu
    split at h
    · rename_i wb mk T' m ct s hst hs
      obtain ⟨d, hd, hg⟩ := hR.good o _ hst
      have hdm : d.m = m := hg.1
      simp only [SA.rep, SC.val?, hd, Option.some.injEq, Option.getD_none] at hx
      subst hx
      split at h
      · -- whole
        rename_i hms
        have hms : m = s := by simpa using hms
        have hcap : ct.len = d.cap := by
          obtain ⟨_, _, cs, fz, h5, h6, h7, h8, h9, h10⟩ := hg
          exact h9 rfl
        obtain ⟨r, l, h, h1, h2, h3, h4⟩ := bounds_run (P := P) (w := w) (isSlice := true) (cap := d.cap - i) hlo hhi (by omega) h
        obtain ⟨hc, h⟩ := need_iff.1 h
        have hc : i + r ≤ ct.len := by simpa using hc
        have hrun : (Instr.sliceAt T (.slice (some ⟨d.blk, d.off + i * d.m, none⟩) n (d.cap - i)) lv hv none).run P w =
            .ok (.slice (some (if d.cap - i = l then ⟨d.blk, d.off + i * d.m, none⟩ else ⟨d.blk, d.off + i * d.m + l * s, none⟩)) (r - l) (d.cap - i - l)) w := by
          simp only [Instr.sliceAt, Sem.run_bind, run_under hu, Result.andThen_ok, Instr.slice, h4, run_size hs]
          split <;> simp [addr_add]
        rcases branch_or h with ⟨he, h⟩ | ⟨he, h⟩
        · have he : ct.len - i = l := by simpa using he
          rw [if_pos (by omega)] at hrun
          refine Got.pure hR hrun ?_ h
          simp only [SV.rep, SA.rep, SC.val?, hd, Option.getD_some]
          rw [show r - l = 0 from by omega, show d.cap - i - l = 0 from by omega]
        · have he : ¬ ct.len - i = l := by simpa using he
          rw [if_neg (by omega)] at hrun
          refine Got.pure hR hrun ?_ h
          simp only [SV.rep, SA.rep, SC.val?, hd, Option.getD_none, hdm, hms, Nat.add_mul, Nat.add_assoc, Nat.sub_sub]
      · -- row
        rename_i hms
        have hms : m = s := by simpa using hms
        have hcap : ct.len ≤ d.cap := by
          obtain ⟨_, _, cs, fz, h5, h6, h7, h8, h9, h10⟩ := hg
          exact h8
        obtain ⟨r, l, h, h1, h2, h3, h4⟩ := bounds_run (P := P) (w := w) (isSlice := true) (cap := d.cap - i) hlo hhi (by omega) h
        obtain ⟨hc, h⟩ := need_iff.1 h
        have hc : i + r ≤ ct.len := by simpa using hc
        have hrun : (Instr.sliceAt T (.slice (some ⟨d.blk, d.off + i * d.m, none⟩) n (d.cap - i)) lv hv none).run P w =
            .ok (.slice (some (if d.cap - i = l then ⟨d.blk, d.off + i * d.m, none⟩ else ⟨d.blk, d.off + i * d.m + l * s, none⟩)) (r - l) (d.cap - i - l)) w := by
          simp only [Instr.sliceAt, Sem.run_bind, run_under hu, Result.andThen_ok, Instr.slice, h4, run_size hs]
          split <;> simp [addr_add]
        rcases branch_or h with ⟨he, h⟩ | ⟨he, h⟩
        · have he : l = 0 := by simpa using he
          subst he
          have hrun' : (Instr.sliceAt T (.slice (some ⟨d.blk, d.off + i * d.m, none⟩) n (d.cap - i)) lv hv none).run P w =
            .ok (.slice (some ⟨d.blk, d.off + i * d.m, none⟩) r (d.cap - i)) w := by
            rw [hrun]
            simp
          refine Got.pure hR hrun' ?_ h
          simp only [SV.rep, SA.rep, SC.val?, hd, Option.getD_none]
        · rcases branch_or h with ⟨he2, h⟩ | ⟨he2, h⟩
          · have he2 : i + l < ct.len := by simpa using he2
            rw [if_neg (by omega)] at hrun
            refine Got.pure hR hrun ?_ h
            simp only [SV.rep, SA.rep, SC.val?, hd, Option.getD_none, hdm, hms, Nat.add_mul, Nat.add_assoc, Nat.sub_sub]
          · have he2 : ¬ i + l < ct.len := by simpa using he2
            have hl : i + l = ct.len := by
              have : ¬ l = 0 := by simpa using he
              rcases h3 with h3 | h3 <;> omega
            have hr0 : r - l = 0 := by omega
            -- an empty slice at the row's end
            let den : Den := ⟨0, 0, 0, 0, .slice (some (if d.cap - i = l then ⟨d.blk, d.off + i * d.m, none⟩ else ⟨d.blk, d.off + i * d.m + l * s, none⟩)) 0 (d.cap - i - l)⟩
            have hto : To α st w (α.add st.length den) (st ++ [some (.emp o ct.len)]) w := by
              refine To.ghost hR rfl rfl ⟨d, (if d.cap - i = l then ⟨d.blk, d.off + i * d.m, none⟩ else ⟨d.blk, d.off + i * d.m + l * s, none⟩), d.cap - i - l, ?_, rfl, ?_⟩
              · rw [Al.add_other (by have := St.get_lt hst; omega)]; exact hd
              · by_cases hz : d.cap - i = l
                · left; omega
                · right
                  rw [if_neg hz]
                  refine ⟨?_, by omega⟩
                  rw [← hl, hdm, hms, Nat.add_mul, Nat.add_assoc]
            refine ⟨_, _, _, _, _, hrun, ?_, h, hto⟩
            simp [SV.rep, SA.rep, SC.val?, Al.add_same, den, hr0]
      · exact h.elim
    · exact h.elim
  · -- nil
    rename_i e n c hu
    simp only [SA.rep, SC.val?, Option.some.injEq] at hx
    subst hx
    split at h
    · rename_i s hs
      obtain ⟨r, l, h, h1, h2, h3, h4⟩ := bounds_run (P := P) (w := w) (isSlice := true) (cap := c) hlo hhi (Nat.le_refl _) h
      obtain ⟨hc, h⟩ := need_iff.1 h
      refine Got.pure (sv := .sa (.one (.raw (.slice none (r - l) (c - l))))) (v := .slice none (r - l) (c - l)) hR ?_ rfl h
      simp only [Instr.sliceAt, Sem.run_bind, run_under hu, Result.andThen_ok, Instr.slice, h4, run_size hs]
      split <;> simp
    · exact h.elim
  · -- a text
    rename_i s hu
    simp only [SA.rep, SC.val?, Option.some.injEq] at hx
    subst hx
    obtain ⟨r, l, h, h1, h2, h3, h4⟩ := bounds_run (P := P) (w := w) (isSlice := false) (cap := s.size) hlo hhi (Nat.le_refl _) h
    refine Got.pure (sv := .sa (.one (.raw (.string (s.extract l r))))) (v := .string (s.extract l r)) hR ?_ rfl h
    simp [Instr.sliceAt, run_under hu, Instr.slice, h4]
  · -- an array
    rename_i len e o i j hu
    split at h
    · rename_i wb mk T' m ct s hst hs
      split at h
      · rename_i hms
        have hms : m = s ∧ j = 0 := by simpa using hms
        obtain ⟨d, hd, hg⟩ := hR.good o _ hst
        have hdm : d.m = m := hg.1
        simp only [SA.rep, SC.val?, hd, Option.some.injEq] at hx
        subst hx
        obtain ⟨r, l, h, h1, h2, h3, h4⟩ := bounds_run (P := P) (w := w) (isSlice := false) (cap := len) hlo hhi (Nat.le_refl _) h
        obtain ⟨hb, h⟩ := need_iff.1 h
        obtain ⟨hc, h⟩ := need_iff.1 h
        have hb : i + len ≤ ct.len := by simpa using hb
        have hc : r ≤ len := by simpa using hc
        have hrun : (Instr.sliceAt T (.pointer (some ⟨d.blk, d.off + i * d.m + j, none⟩)) lv hv none).run P w =
            .ok (.slice (some (if len = l then ⟨d.blk, d.off + i * d.m, none⟩ else ⟨d.blk, d.off + i * d.m + l * s, none⟩)) (r - l) (len - l)) w := by
          simp only [Instr.sliceAt, Sem.run_bind, run_under hu, Result.andThen_ok, Instr.sureAddr, Sem.run_pure, h4, run_size hs, hms.2, Nat.add_zero]
          split <;> simp [addr_add]
        unfold cutKnown at h
        rcases branch_or h with ⟨he, h⟩ | ⟨he, h⟩
        · have he : len = l := by simpa using he
          rw [if_pos he] at hrun
          refine Got.pure hR hrun ?_ h
          simp only [SV.rep, SA.rep, SC.val?, hd, Option.getD_some]
          rw [show r - l = 0 from by omega, show len - l = 0 from by omega]
        · have he : ¬ len = l := by simpa using he
          rw [if_neg he] at hrun
          refine Got.pure hR hrun ?_ h
          simp only [SV.rep, SA.rep, SC.val?, hd, Option.getD_some, hdm, hms.1, Nat.add_mul, Nat.add_assoc]
      · exact h.elim
    · exact h.elim
  · exact h.elim

/-- The three bounds of a slice expression, run. -/
theorem bounds3_run {n cap top : Nat} {lo : Option SA} {hi mx : SA} {lv : Option Value} {hv mv : Value} {k : Nat → Nat → Nat → Prop} (hlo : RepO α lo lv) (hhi : hi.rep α hv) (hmx : mx.rep α mv) (htop : top ≤ cap)
    (h : evBound 0 (some mx) top fun mm => evBound 0 (some hi) mm fun h => evBound 0 lo h fun l => k mm h l) :
    ∃ mm h l, k mm h l ∧ mm ≤ top ∧ h ≤ mm ∧ (l ≤ h ∨ l = 0) ∧ (Instr.sliceBounds true n cap lv (some hv) (some mv)).run P w = .ok (l, h, mm) w := by
  obtain ⟨q, h, hq⟩ := evBound_spec (P := P) (w := w) (show RepO α (some mx) (some mv) from hmx) h
  obtain ⟨r, h, hr⟩ := evBound_spec (P := P) (w := w) (show RepO α (some hi) (some hv) from hhi) h
  obtain ⟨l, h, hl⟩ := evBound_spec (P := P) (w := w) hlo h
  rcases hq with ⟨hq, _⟩ | ⟨hq, v, e, hqv⟩
  · simp at hq
  cases e
  rcases hr with ⟨hr, _⟩ | ⟨hr, v, e, hrv⟩
  · simp at hr
  cases e
  refine ⟨q, r, l, h, hq, hr, ?_, ?_⟩
  · rcases hl with ⟨_, hl⟩ | ⟨hl, _⟩
    · exact .inr hl
    · exact .inl hl
  · rcases hl with ⟨rfl, rfl⟩ | ⟨hl, u, rfl, hu⟩
    · simp [Instr.sliceBounds, hqv cap _ (by omega), hrv q _ hr]
    · simp [Instr.sliceBounds, hqv cap _ (by omega), hrv q _ hr, hu r _ hl]

theorem evSlice3_sound {T : TypeId} {x : SA} {xv : Value} {lo : Option SA} {hi mx : SA} {lv : Option Value} {hv mv : Value} {k : SV → St → Prop} (hR : R α st w) (hx : x.rep α xv)
    (hlo : RepO α lo lv) (hhi : hi.rep α hv) (hmx : mx.rep α mv) (h : evSlice3 P T st x lo hi mx k) : Got P α st w (Instr.sliceAt T xv lv (some hv) (some mv)) k := by
  unfold evSlice3 at h
  split at h
  · rename_i e o i n c hu
    split at h
    · rename_i wb mk T' m ct s hst hs
      split at h
      · rename_i hms hmk
        have hms : m = s := by simpa using hms
        obtain ⟨d, hd, hg⟩ := hR.good o _ hst
        have hdm : d.m = m := hg.1
        simp only [SA.rep, SC.val?, hd, Option.some.injEq] at hx
        subst hx
        have htop : c.getD (ct.len - i) ≤ c.getD (d.cap - i) := by
          cases c with
          | some c => simp
          | none =>
            cases mk with
            | ext => simp at hmk
            | row => simp at hmk
            | whole =>
              obtain ⟨_, _, cs, fz, h5, h6, h7, h8, h9, h10⟩ := hg
              simp
              omega
        obtain ⟨q, r, l, h, h1, h2, h3, h4⟩ := bounds3_run (P := P) (w := w) (n := n) hlo hhi hmx htop h
        obtain ⟨hb, h⟩ := need_iff.1 h
        have hrun : (Instr.sliceAt T (.slice (some ⟨d.blk, d.off + i * d.m, none⟩) n (c.getD (d.cap - i))) lv (some hv) (some mv)).run P w =
            .ok (.slice (some (if q = l then ⟨d.blk, d.off + i * d.m, none⟩ else ⟨d.blk, d.off + i * d.m + l * s, none⟩)) (r - l) (q - l)) w := by
          simp only [Instr.sliceAt, Sem.run_bind, run_under hu, Result.andThen_ok, Instr.slice, h4, run_size hs]
          split <;> simp [addr_add]
        unfold cutKnown at h
        rcases branch_or h with ⟨he, h⟩ | ⟨he, h⟩
        · have he : q = l := by simpa using he
          rw [if_pos he] at hrun
          refine Got.pure hR hrun ?_ h
          simp only [SV.rep, SA.rep, SC.val?, hd, Option.getD_some]
          rw [show r - l = 0 from by omega, show q - l = 0 from by omega]
        · have he : ¬ q = l := by simpa using he
          rw [if_neg he] at hrun
          refine Got.pure hR hrun ?_ h
          simp only [SV.rep, SA.rep, SC.val?, hd, Option.getD_some, hdm, hms, Nat.add_mul, Nat.add_assoc]
      · exact h.elim
    · exact h.elim
  · rename_i e n c hu
    simp only [SA.rep, SC.val?, Option.some.injEq] at hx
    subst hx
    split at h
    · exact h.elim
    · rename_i s hs
      obtain ⟨q, r, l, h, h1, h2, h3, h4⟩ := bounds3_run (P := P) (w := w) (n := n) (cap := c) hlo hhi hmx (Nat.le_refl _) h
      refine Got.pure (sv := .sa (.one (.raw (.slice none (r - l) (q - l))))) (v := .slice none (r - l) (q - l)) hR ?_ rfl h
      simp only [Instr.sliceAt, Sem.run_bind, run_under hu, Result.andThen_ok, Instr.slice, h4, run_size hs]
      split <;> simp
  · exact h.elim

/-! ### function values, maps made -/
theorem makeFunc_sound {f : Fn} {fs cs : List SA} {fv cv : Array Value} {k : SV → St → Prop} (hR : R α st w) (hf : RepsA α fs fv.toList) (hc : RepsA α cs cv.toList)
    (h : k (.sa (.one (.ref (lenL st)))) (st ++ [some (.clo f fs cs)])) : Got P α st w (Instr.makeFunc f fv cv) k := by
  have hle := Al.le_add (d := ⟨0, 0, 0, 0, .func f fv cv⟩) (hR.none _ (Nat.le_refl _))
  refine ⟨.func f fv cv, w, _, _, _, rfl, ?_, h, To.ghost (d := ⟨0, 0, 0, 0, .func f fv cv⟩) hR rfl rfl ⟨fv.toList, cv.toList, hf.mono hle, hc.mono hle, by simp⟩⟩
  simp [SV.rep, SA.rep, SC.val?, Al.add_same]

theorem newMap_to (hR : R α st w) : To α st w (α.add st.length ⟨w.heap.size, 0, 0, 0, .map (some w.heap.size)⟩) (st ++ [some (.mp true [] 0)]) (w.alloc (.map #[] 0)) :=
  To.new hR (fun _ => rfl) (fun _ => rfl) rfl ⟨rfl, [], heap_alloc_eq _ _, trivial⟩
theorem makeMap_sound {T : TypeId} {k : SV → St → Prop} (hR : R α st w) (h : k (.sa (.one (.ref (lenL st)))) (st ++ [some (.mp true [] 0)])) : Got P α st w (Instr.makeMap T none) k := by
  refine ⟨.map (some w.heap.size), w.alloc (.map #[] 0), _, _, _, by simp [Instr.makeMap], ?_, h, newMap_to hR⟩
  simp [SV.rep, SA.rep, SC.val?, Al.add_same]
theorem makeMap_sound' {T x y : TypeId} {kk : IntKind} {z : Int} {k : SV → St → Prop} (hR : R α st w) (hu : P.underlying T = some (.map x y))
    (h : k (.sa (.one (.ref (lenL st)))) (st ++ [some (.mp true [] 0)])) : Got P α st w (Instr.makeMap T (some (.int kk z))) k := by
  refine ⟨.map (some w.heap.size), w.alloc (.map #[] 0), _, _, _, by simp [Instr.makeMap, run_under hu, asInt, asIntOf], ?_, h, newMap_to hR⟩
  simp [SV.rep, SA.rep, SC.val?, Al.add_same]

end Go.Ev

/- THE ENGINE, part 8: contents; len, cap, append, copy, clear, make, conversions. -/
namespace Go.Ev
open Go
variable {P : Program} {α : Al} {st : St} {w : World}

/-! ### contents -/
theorem intsOf_spec {k : IntKind} : ∀ {l : List (List SC)} {xs : List Int}, intsOf k l = some xs → xs.length = l.length ∧ ∀ j, j < l.length → l[j]?.getD [] = [SC.raw (.int k (xs[j]?.getD 0))]
  | [], xs, h => by simp [intsOf] at h; subst h; simp
  | e :: r, xs, h => by
    unfold intsOf at h
    split at h
    · rename_i heq; simp at heq
    · rename_i k' x r' heq
      simp only [List.cons.injEq] at heq
      obtain ⟨rfl, rfl⟩ := heq
      split at h
      · rename_i l hk hl
        cases h
        have hk : k = k' := by simpa using hk
        subst hk
        obtain ⟨h1, h2⟩ := intsOf_spec hl
        refine ⟨by simp [h1], fun j hj => ?_⟩
        cases j with
        | zero => simp
        | succ j => simp at hj; simpa using h2 j hj
      · simp at h
    · simp at h

theorem Ct.sub_len {ct : Ct} {i n : Nat} (h : i + n ≤ ct.len) : (ct.sub i n).len = n := by
  cases ct <;> simp only [Ct.sub, Ct.len] at h ⊢
  · simp; omega
  · simp; omega
theorem colsAt_drop (i j : Nat) : ∀ (cs : List Col), colsAt j (cs.map (Col.drop i)) = colsAt (i + j) cs
  | [] => rfl
  | .ints k xs :: r => by simp [colsAt, Col.drop, Col.at, colsAt_drop i j r]
  | .bools xs :: r => by simp [colsAt, Col.drop, Col.at, colsAt_drop i j r]
theorem pushAll_spec : ∀ {vs : List (List SC)} {n : Nat} {cs cs' : List Col}, pushAll n cs vs = some cs' → ∀ j, j < n + vs.length → colsAt j cs' = if j < n then colsAt j cs else vs[j - n]?.getD []
  | [], n, cs, cs', h, j, hj => by simp [pushAll] at h; subst h; rw [if_pos (by simpa using hj)]
  | e :: r, n, cs, cs', h, j, hj => by
    simp only [pushAll] at h
    split at h
    · rename_i c1 h1
      rw [pushAll_spec h j (by simp at hj; omega)]
      by_cases hn : j < n
      · rw [if_pos (by omega), if_pos hn, colsPush_at h1 (by omega), if_pos hn]
      · by_cases hn1 : j < n + 1
        · rw [if_pos hn1, if_neg hn, colsPush_at h1 hn1, if_neg hn, show j - n = 0 by omega]; rfl
        · rw [if_neg hn1, if_neg hn, show j - n = (j - (n + 1)) + 1 by omega]; simp
    · simp at h
theorem Col.app_at {n m : Nat} {a b c : Col} (h : a.app n m b = some c) {j : Nat} (hj : j < n + m) : c.at j = if j < n then a.at j else b.at (j - n) := by
  unfold Col.app at h
  split at h
  · split at h
    · rename_i hk; subst hk; cases h
      simp only [Col.at, List.getD_eq_getElem?_getD, List.getElem?_append, fitL_length]
      by_cases e : j < n
      · rw [if_pos e, if_pos e, fitL_get e]
      · rw [if_neg e, if_neg e, fitL_get (by omega)]
    · simp at h
  · cases h
    simp only [Col.at, List.getD_eq_getElem?_getD, List.getElem?_append, fitL_length]
    by_cases e : j < n
    · rw [if_pos e, if_pos e, fitL_get e]
    · rw [if_neg e, if_neg e, fitL_get (by omega)]
  · simp at h
theorem colsApp_spec {n m : Nat} {j : Nat} (hj : j < n + m) : ∀ {a b c : List Col}, colsApp n m a b = some c → colsAt j c = if j < n then colsAt j a else colsAt (j - n) b
  | [], [], c, h => by simp [colsApp] at h; subst h; split <;> rfl
  | [], _ :: _, c, h => by simp [colsApp] at h
  | _ :: _, [], c, h => by simp [colsApp] at h
  | x :: a, y :: b, c, h => by
    simp only [colsApp] at h
    split at h
    · rename_i c1 r1 h1 h2
      cases h
      simp only [colsAt, Col.app_at h1 hj, colsApp_spec hj h2]
      split <;> rfl
    · simp at h
theorem setAll_spec : ∀ {vs : List (List SC)} {n i : Nat} {cs cs' : List Col}, setAll n i cs vs = some cs' → i + vs.length ≤ n → ∀ j, j < n → colsAt j cs' = if i ≤ j ∧ j < i + vs.length then vs[j - i]?.getD [] else colsAt j cs
  | [], n, i, cs, cs', h, hi, j, hj => by simp [setAll] at h; subst h; rw [if_neg (by simp only [List.length_nil]; omega)]
  | e :: r, n, i, cs, cs', h, hi, j, hj => by
    simp only [setAll] at h
    simp only [List.length_cons] at hi ⊢
    split at h
    · rename_i c1 h1
      rw [setAll_spec h (by omega) j hj, colsSet_at (by omega) h1 hj]
      by_cases e1 : j = i
      · rw [if_neg (by omega), if_pos e1, if_pos (by omega), show j - i = 0 by omega]; rfl
      · by_cases e2 : i + 1 ≤ j ∧ j < i + 1 + r.length
        · rw [if_pos e2, if_pos (by omega), show j - i = (j - (i + 1)) + 1 by omega]; simp
        · rw [if_neg e2, if_neg e1, if_neg (by omega)]
    · simp at h
theorem Ct.sub_get {ct : Ct} {i n : Nat} {j : Nat} (hj : j < n) : (ct.sub i n).get j = ct.get (i + j) := by
  cases ct with
  | lst vs => simp [Ct.sub, Ct.get, hj]
  | ints k xs => simp [Ct.sub, Ct.get, hj]
  | tab m cs => exact colsAt_drop i j cs

theorem Ct.app_spec {a b c : Ct} (h : a.app b = some c) : c.len = a.len + b.len ∧ ∀ j, j < c.len → c.get j = if j < a.len then a.get j else b.get (j - a.len) := by
  unfold Ct.app at h
  split at h
  · cases h
    refine ⟨by simp [Ct.len], fun j hj => ?_⟩
    simp only [Ct.len, Ct.get, getL_eq] at hj ⊢
    split
    · rename_i hlt; rw [List.getElem?_append_left hlt]
    · rename_i hlt; rw [List.getElem?_append_right (by omega)]
  · split at h
    · rename_i hk; subst hk
      cases h
      refine ⟨by simp [Ct.len], fun j hj => ?_⟩
      simp only [Ct.len, Ct.get, List.getD_eq_getElem?_getD] at hj ⊢
      split
      · rename_i hlt; rw [List.getElem?_append_left hlt]
      · rename_i hlt; rw [List.getElem?_append_right (by omega)]
    · simp at h
  · split at h
    · rename_i l hl
      cases h
      obtain ⟨h1, h2⟩ := intsOf_spec hl
      refine ⟨by simp [Ct.len, h1], fun j hj => ?_⟩
      simp only [Ct.len, Ct.get, List.getD_eq_getElem?_getD, getL_eq] at hj ⊢
      split
      · rename_i hlt; rw [List.getElem?_append_left hlt]
      · rename_i hlt
        rw [List.getElem?_append_right (by omega), h2 _ (by simp at hj; omega)]
    · simp at h
  · cases h
    exact ⟨by simp [Ct.len], fun j hj => by simp [Ct.len]⟩
  · cases h
    exact ⟨by simp [Ct.len], fun j hj => by simp [Ct.len]⟩
  · split at h
    · rename_i c1 h1
      cases h
      refine ⟨by simp [Ct.len], fun j hj => ?_⟩
      simp only [Ct.len, Ct.get, getL_eq, lenL_eq] at hj ⊢
      exact pushAll_spec h1 j hj
    · simp at h
  · split at h
    · rename_i c1 h1
      cases h
      refine ⟨by simp [Ct.len], fun j hj => ?_⟩
      simp only [Ct.len, Ct.get] at hj ⊢
      exact colsApp_spec hj h1
    · simp at h
  · simp at h

theorem over_get {β : Type} (l b : List β) (i : Nat) (h : i + b.length ≤ l.length) (j : Nat) : (l.take i ++ b ++ l.drop (i + b.length))[j]? = if i ≤ j ∧ j < i + b.length then b[j - i]? else l[j]? := by
  simp only [List.getElem?_append, List.length_append, List.length_take, List.getElem?_take, List.getElem?_drop]
  have e2 : min i l.length = i := by omega
  simp only [e2]
  by_cases h1 : j < i
  · have x1 : j < i + b.length := by omega
    have x2 : ¬ i ≤ j := by omega
    simp [h1, x1, x2]
  · by_cases h2 : j < i + b.length
    · have x2 : i ≤ j := by omega
      simp [h1, h2, x2]
    · have x2 : i ≤ j := by omega
      simp only [h1, h2, x2, if_false, and_false]
      congr 1
      omega

theorem Ct.over_spec {ct new c : Ct} {i : Nat} (hi : i + new.len ≤ ct.len) (h : ct.over i new = some c) :
    c.len = ct.len ∧ ∀ j, j < ct.len → c.get j = if i ≤ j ∧ j < i + new.len then new.get (j - i) else ct.get j := by
  unfold Ct.over at h
  split at h
  · cases h
    simp only [Ct.len] at hi
    refine ⟨by simp [Ct.len]; omega, fun j _ => ?_⟩
    simp only [Ct.get, Ct.len, getL_eq, takeL_eq, dropL_eq, lenL_eq]
    rw [over_get _ _ _ hi]
    split <;> rfl
  · split at h
    · rename_i hk; subst hk
      cases h
      simp only [Ct.len] at hi
      refine ⟨by simp [Ct.len]; omega, fun j _ => ?_⟩
      simp only [Ct.get, Ct.len, List.getD_eq_getElem?_getD]
      rw [over_get _ _ _ hi]
      split <;> rfl
    · simp at h
  · split at h
    · rename_i l hl
      cases h
      obtain ⟨h1, h2⟩ := intsOf_spec hl
      simp only [Ct.len] at hi
      refine ⟨by simp [Ct.len]; omega, fun j _ => ?_⟩
      simp only [Ct.get, Ct.len, List.getD_eq_getElem?_getD, getL_eq]
      rw [over_get _ _ _ (by omega)]
      by_cases hc : i ≤ j ∧ j < i + l.length
      · rw [if_pos hc, if_pos (by omega), h2 _ (by omega)]
      · rw [if_neg hc, if_neg (by omega)]
    · simp at h
  · split at h
    · rename_i c1 h1
      cases h
      refine ⟨by simp [Ct.len], fun j hj => ?_⟩
      simp only [Ct.len, Ct.get, getL_eq] at hi hj ⊢
      exact setAll_spec h1 hi j hj
    · simp at h
  · simp at h

/-! ### what is appended or copied -/
/-- The cells of a content, s for an element, as the model gathers them. -/
def FlatCt (α : Al) (s : Nat) (ct : Ct) (n : Nat) (cs : Array Value) : Prop :=
  cs.size = n * s ∧ ∀ i, i < n → (ct.get i).length = s ∧ ∀ j c, (ct.get i)[j]? = some c → ∃ v, c.val? α = some v ∧ cs[i * s + j]? = some v ∧ Ev.isCell v = true

def Src (P : Program) (α : Al) (w : World) (s : Nat) (xv : Value) (new : Ct) : Prop :=
  (∀ w', (Builtin.lenOf xv).run P w' = .ok new.len w') ∧
  ∀ n, n ≤ new.len → ∃ cs, FlatCt α s new n cs ∧ ∀ w' : World, w'.heap = w.heap → (Builtin.firstCells s n xv).run P w' = .ok cs w'

theorem gather_get {ct : Ct} {m : Nat} : ∀ (n i : Nat), (∀ x, x < n → (ct.get (i + x)).length = m) → ∀ x y, x < n → y < m → (gather ct i n)[x * m + y]? = (ct.get (i + x))[y]?
  | n + 1, i, h, 0, y, _, hy => by
    simp only [gather, Nat.zero_mul, Nat.zero_add, Nat.add_zero]
    rw [List.getElem?_append_left (by have := h 0 (by omega); simp at this; omega)]
  | n + 1, i, h, x + 1, y, hx, hy => by
    have h0 := h 0 (by omega)
    simp only [Nat.add_zero] at h0
    simp only [gather]
    rw [List.getElem?_append_right (by rw [h0, Nat.succ_mul]; omega), h0, Nat.succ_mul, show x * m + m + y - m = x * m + y from by omega]
    rw [gather_get n (i + 1) (fun z hz => by have := h (z + 1) (by omega); rwa [show i + 1 + z = i + (z + 1) from by omega]) x y (by omega) hy]
    rw [show i + 1 + x = i + (x + 1) from by omega]

theorem Good.flat {d : Den} {wb : Bool} {k : MK} {T : TypeId} {m : Nat} {ct : Ct} (hg : Good α w d (.mem wb k T m ct)) {i n : Nat} (h : i + n ≤ ct.len) (w' : World) (hw : w'.heap = w.heap) :
    ∃ cs, FlatCt α m (ct.sub i n) n cs ∧ (loadCells ⟨d.blk, d.off + i * m, none⟩ (n * m)).run P w' = .ok cs w' := by
  have hg' : Good α w' d (.mem wb k T m ct) := hg.congr (Al.le.refl _) (fun _ => by rw [hw]) (by rw [hw]; exact Nat.le_refl _)
  obtain ⟨h1, h2⟩ := hg'.gather n i h
  obtain ⟨vs, hv, hvs⟩ := h1
  have hl := run_loadCells_list (P := P) w' ⟨d.blk, d.off + i * m, none⟩ vs (fun j v hj => by rw [addr_add]; exact hvs j v hj)
  have hlen := hv.length
  rw [hlen, h2] at hl
  refine ⟨vs.toArray, ⟨by simp [hlen, h2], fun x hx => ?_⟩, hl⟩
  have hc := hg.cell (i := i + x) (by omega)
  rw [Ct.sub_get hx]
  refine ⟨hc.1, fun y c hy => ?_⟩
  have hym : y < m := by rw [← hc.1]; exact (List.getElem?_eq_some_iff.1 hy).1
  have hgg := gather_get n i (fun z hz => (hg.cell (i := i + z) (by omega)).1) x y hx hym
  rw [hy] at hgg
  obtain ⟨v, x1, x2⟩ := hv.get hgg
  obtain ⟨u, y1, y2, y3⟩ := hc.2 y c hy
  rw [x2] at y1; cases y1
  exact ⟨v, x2, by simpa using x1, y3⟩

theorem evSrc_sound {s : Nat} {x : SA} {xv : Value} {k : Ct → Prop} (hR : R α st w) (hx : x.rep α xv) (h : evSrc st s x k) : ∃ new, k new ∧ Src P α w s xv new := by
  unfold evSrc at h
  split at h
  · rename_i o i n c
    split at h
    · rename_i wb mk T' m ct hst
      split at h
      · rename_i hms
        have hms : m = s := by simpa using hms
        subst hms
        obtain ⟨hb, h⟩ := need_iff.1 h
        have hb : i + n ≤ ct.len := by simpa using hb
        obtain ⟨d, hd, hg⟩ := hR.good o _ hst
        have hdm : d.m = m := hg.1
        simp only [SA.rep, SC.val?, hd, Option.some.injEq] at hx
        subst hx
        refine ⟨_, h, fun w' => by simp [Builtin.lenOf, Ct.sub_len hb], fun n' hn' => ?_⟩
        rw [Ct.sub_len hb] at hn'
        obtain ⟨cs, hcs, _⟩ := hg.flat (P := P) (i := i) (n := n') (by omega) w rfl
        refine ⟨cs, ⟨hcs.1, fun y hy => ?_⟩, fun w' hw' => ?_⟩
        · have := hcs.2 y hy
          rw [Ct.sub_get hy] at this
          rw [Ct.sub_get (by omega)]
          exact this
        · obtain ⟨cs', hcs', hl'⟩ := hg.flat (P := P) (i := i) (n := n') (by omega) w' hw'
          simp only [Builtin.firstCells, hdm]
          rw [hl']
          congr 1
          -- the two gatherings agree
          apply Array.ext'
          apply List.ext_getElem?
          intro z
          by_cases hz : z < n' * m
          · have hm : 0 < m := hg.2.1
            have hq : z / m < n' := Nat.div_lt_of_lt_mul (by rw [Nat.mul_comm]; exact hz)
            have hr : z % m < m := Nat.mod_lt _ hm
            have hzq : z / m * m + z % m = z := by rw [Nat.mul_comm]; exact Nat.div_add_mod z m
            have hlen := (hcs.2 _ hq).1
            have hge : ((ct.sub i n').get (z / m))[z % m]? = some (((ct.sub i n').get (z / m))[z % m]'(by omega)) := List.getElem?_eq_getElem _
            obtain ⟨v, a1, a2, _⟩ := (hcs.2 _ hq).2 _ _ hge
            obtain ⟨u, b1, b2, _⟩ := (hcs'.2 _ hq).2 _ _ hge
            rw [a1] at b1; cases b1
            rw [hzq] at a2 b2
            rw [Array.getElem?_toList, Array.getElem?_toList, a2, b2]
          · rw [List.getElem?_eq_none (by simp [hcs'.1]; omega), List.getElem?_eq_none (by simp [hcs.1]; omega)]
      · exact h.elim
    · exact h.elim
  · rename_i c
    simp only [SA.rep, SC.val?, Option.some.injEq] at hx
    subst hx
    refine ⟨_, h, fun w' => by simp [Builtin.lenOf, Ct.len], fun n hn => ⟨#[], ⟨?_, fun i hi => ?_⟩, fun w' _ => by simp [Builtin.firstCells]⟩⟩
    · simp [Ct.len] at hn; simp [hn]
    · simp [Ct.len] at hn; omega
  · rename_i q
    split at h
    · rename_i o L hst
      obtain ⟨d, hd, e, a, c, h1, h2, h3⟩ := hR.good q _ hst
      simp only [SA.rep, SC.val?, hd, Option.some.injEq] at hx
      rw [h2] at hx
      subst hx
      refine ⟨_, h, fun w' => by simp [Builtin.lenOf, Ct.len], fun n hn => ⟨#[], ⟨?_, fun i hi => ?_⟩, fun w' _ => ?_⟩⟩
      · simp [Ct.len] at hn; simp [hn]
      · simp [Ct.len] at hn; omega
      · simp [Ct.len] at hn
        subst hn
        simp [Builtin.firstCells, loadCells, loadCellsFrom]
    · exact h.elim
  · rename_i b
    split at h
    · rename_i hs
      have hs : s = 1 := by simpa using hs
      subst hs
      simp only [SA.rep, SC.val?, Option.some.injEq] at hx
      subst hx
      have hlen : (rawInts .u8 b.data.toList).len = b.size := by simp [rawInts, Ct.len]
      refine ⟨_, h, fun w' => by simp [Builtin.lenOf, hlen], fun n hn => ⟨(b.extract 0 n).data.map fun x => .int .u8 x.toNat, ?_, fun w' _ => by simp [Builtin.firstCells]⟩⟩
      rw [hlen] at hn
      have hsz : (b.extract 0 n).data.size = n := by
        have : (b.extract 0 n).size = n := by simp [ByteArray.size_extract]; omega
        exact this
      refine ⟨by rw [Array.size_map, hsz, Nat.mul_one], fun i hi => ⟨by simp [rawInts, Ct.get], fun j c hj => ?_⟩⟩
      simp only [rawInts, Ct.get] at hj
      cases j with
      | succ j => simp at hj
      | zero =>
        simp at hj
        subst hj
        have hib : i < b.data.size := by show i < b.size; omega
        have he : (b.extract 0 n).data[i]? = b.data[i]? := by
          rw [ByteArray.data_extract, Array.getElem?_extract, if_pos (by omega)]
          simp
        refine ⟨_, rfl, ?_, rfl⟩
        simp only [Nat.mul_one, Nat.add_zero, Array.getElem?_map, he]
        rw [Array.getElem?_eq_getElem hib]
        simp
    · exact h.elim
  · exact h.elim

/-- How what is appended is told by the model: the elements of a value, or so many zeros. -/
def AppRun (P : Program) (w : World) (T2 e : TypeId) (s : Nat) (xv : Value) (m : Nat) (cs : Array Value) : Prop :=
  ((∃ d, P.underlying T2 = some d ∧ ∀ k, d ≠ .int k) ∧ (∀ w', (Builtin.lenOf xv).run P w' = .ok m w') ∧ ∀ w' : World, w'.heap = w.heap → (Builtin.firstCells s m xv).run P w' = .ok cs w') ∨
  ∃ kk k2 l inf z, P.underlying T2 = some (.int kk) ∧ xv = .int k2 l ∧ 0 ≤ l ∧ l < 2 ^ 63 ∧ P.info? e = some inf ∧ l * inf.bytes ≤ 2 ^ 48 ∧ inf.zero = some z ∧ z.cells.size = s ∧ m = l.toNat ∧ cs = Builtin.zeroCells z.cells m
theorem AppRun.heap {w w' : World} {T2 e : TypeId} {s : Nat} {xv : Value} {m : Nat} {cs : Array Value} (h : AppRun P w T2 e s xv m cs) (hh : w'.heap = w.heap) : AppRun P w' T2 e s xv m cs := by
  rcases h with ⟨h1, h2, h3⟩ | h
  · exact .inl ⟨h1, h2, fun w'' h => h3 w'' (h.trans hh)⟩
  · exact .inr h
/-- What is appended: its cells, and how the model tells them. -/
def ASrc (P : Program) (α : Al) (w : World) (T2 e : TypeId) (s : Nat) (xv : Value) (new : Ct) : Prop :=
  ∃ cs, FlatCt α s new new.len cs ∧ AppRun P w T2 e s xv new.len cs
theorem ASrc.of_src {T2 e : TypeId} {s : Nat} {xv : Value} {new : Ct} (hT2 : notInt (P.underlying T2) = true) (h : Src P α w s xv new) : ASrc P α w T2 e s xv new := by
  obtain ⟨cs, h1, h2⟩ := h.2 new.len (Nat.le_refl _)
  refine ⟨cs, h1, .inl ⟨?_, h.1, h2⟩⟩
  cases hd : P.underlying T2 with
  | none => simp [hd, notInt] at hT2
  | some d => exact ⟨d, rfl, fun k e => by subst e; simp [hd, notInt] at hT2⟩
theorem wrap64 {l : Int} (h0 : 0 ≤ l) (h1 : l < 2 ^ 63) : IntKind.i64.wrap l = l := IntWalk.i64_in _ (by omega)
theorem zeroCells_nil {z : Array Value} {m s : Nat} (hz : z.size = s) (h : m * s = 0) : Builtin.zeroCells z m = #[] := by
  apply Array.eq_empty_of_size_eq_zero
  simp [Builtin.zeroCells, hz, h]

theorem zeroCt_len (n : Nat) (z : List Value) : (zeroCt n z).len = n := by
  unfold zeroCt
  split
  · simp [Ct.len]
  · split <;> simp [Ct.len]
theorem zeroCols_at {n i : Nat} (h : i < n) : ∀ {z : List Value} {cs : List Col}, zeroCols n z = some cs → colsAt i cs = z.map .raw
  | [], cs, hz => by simp [zeroCols] at hz; subst hz; rfl
  | v :: r, cs, hz => by
    unfold zeroCols at hz
    split at hz
    · rename_i heq; cases heq
    · rename_i k r' heq
      cases heq
      split at hz
      · rename_i l hl; cases hz; simp [colsAt, Col.at, h, zeroCols_at h hl]
      · simp at hz
    · rename_i r' heq
      cases heq
      split at hz
      · rename_i l hl; cases hz; simp [colsAt, Col.at, h, zeroCols_at h hl]
      · simp at hz
    · simp at hz
theorem zeroCt_get {n : Nat} {z : List Value} {i : Nat} (h : i < n) : (zeroCt n z).get i = z.map .raw := by
  unfold zeroCt
  split
  · simp [Ct.get, h]
  · split
    · rename_i cs hz; exact zeroCols_at h hz
    · simp [Ct.get, h]
theorem zeroCt_flat {s n : Nat} {z : Array Value} (hz : z.size = s) (hc : allCells (z.toList.map .raw) = true) :
    FlatCt α s (zeroCt n z.toList) n ((Array.range (n * s)).map fun i => z[i % z.size]!) := by
  obtain ⟨_, h2⟩ := flat_zero (α := α) n z hz hc
  refine ⟨by simp, fun i hi => ?_⟩
  have := h2 i (by simpa [Ct.len] using hi)
  rw [zeroCt_get hi]
  simpa [Ct.get, hi] using this

/-! ### append -/
theorem getElem?_append_pad {a b c : Array Value} (i : Nat) (h : i < a.size + b.size) : (a ++ b ++ c)[i]? = if i < a.size then a[i]? else b[i - a.size]? := by
  rw [Array.getElem?_append_left (by simp; omega)]
  rw [Array.getElem?_append]

theorem run_append_grows {T T2 ty e s bytes n sCap : Nat} {base : Option Addr} {xv : Value} {new old : Ct} {z : Value}
    (hu : P.underlying T = some (.slice e)) (hs : tSize P e = some s) (hby : tBytes P e = some bytes) (hz : tZero P e = some z)
    (hbp : 0 < bytes) (hsrc : ASrc P α w T2 e s xv new)
    (hbase : ∃ cs, FlatCt α s old n cs ∧ ∀ w' : World, w'.heap = w.heap → (Builtin.firstCells s n (.slice base n sCap)).run P w' = .ok cs w')
    (hg : sCap < n + new.len) (hsz : (n + new.len) * bytes ≤ 2 ^ 47) :
    ∃ cap c1 c2 c3, n + new.len ≤ cap ∧ FlatCt α s old n c1 ∧ FlatCt α s new new.len c2 ∧ c3 = Builtin.zeroCells z.cells (cap - (n + new.len)) ∧
      (Builtin.append_ #[T, T2] ty #[.slice base n sCap, xv]).run P w = .ok (.slice (some ⟨w.heap.size, 0, none⟩) (n + new.len) cap) (w.drew.alloc (.cells (c1 ++ c2 ++ c3) e)) := by
  obtain ⟨c1, hf1, hr1⟩ := hbase
  obtain ⟨c2, hf2, hrun⟩ := hsrc
  unfold tBytes at hby
  cases hi : P.info? e with
  | none => simp [hi] at hby
  | some inf =>
    simp [hi] at hby
    unfold tSize at hs
    simp [hi] at hs
    unfold tZero at hz
    simp [hi] at hz
    have hn : ¬ (n + new.len ≤ sCap) := by omega
    have hle : n + new.len ≤ (n + new.len) * bytes := Nat.le_mul_of_pos_right _ hbp
    have h63 : ¬ (9223372036854775807 < ((n : Int) + (new.len : Int))) := by omega
    have hfit := growslice_fits (need := n + new.len) (old := sCap) (bytes := bytes) hg (by omega)
    have h48 : ¬ (281474976710656 < Builtin.nextslicecap (n + new.len) sCap * bytes) := by omega
    refine ⟨grownCap w (n + new.len) sCap e, c1, c2, _, ?_, hf1, hf2, rfl, ?_⟩
    · simp only [grownCap, Question.cut]; omega
    · have hr1' := hr1 w.drew rfl
      rcases hrun with ⟨⟨d2, hd2, hne⟩, hlen, hr2⟩ | ⟨kk, k2, l, inf', z', g1, rfl, g3, g4, g5, g6, g7, g8, g9, rfl⟩
      · have hr2' := hr2 w.drew rfl
        simp only [Builtin.append_]
        simp [run_underlying hu, run_underlying hd2, sizeOf, typeInfo, zeroValue, hi, hz, hlen, hn, h63, Question.forced, hs, hby, h48, hr1', hr2', newRow, grownCap]
      · rw [hi] at g5; cases g5
        rw [hz] at g7; cases g7
        obtain ⟨m, rfl⟩ := Int.eq_ofNat_of_zero_le g3
        have hw := wrap64 g3 g4
        have q1 : ¬ (m : Int) < 0 := by omega
        rw [hby] at g6
        have q2 : ¬ (281474976710656 < (m : Int) * (bytes : Int)) := by omega
        rw [Int.toNat_natCast] at g9
        rw [g9] at hn h63 h48 ⊢
        have q3 : m * s = 0 → Builtin.zeroCells z.cells m = #[] := zeroCells_nil g8
        simp only [Builtin.append_]
        simp [run_underlying hu, run_underlying g1, asInt, asIntOf, hw, q1, sizeOf, typeInfo, zeroValue, hi, hz, hn, h63, Question.forced, hs, hby, h48, hr1', newRow, grownCap, q2]
        intro hh
        have := q3 (by first | exact hh | (rcases hh with hh | hh <;> simp [hh]))
        simp [this]

theorem FlatCt.reps {s n : Nat} {ct : Ct} {cs : Array Value} (hs : 0 < s) (h : FlatCt α s ct n cs) : Reps α (gather ct 0 n) cs.toList ∧ (∀ v ∈ cs.toList, Ev.isCell v = true) ∧ (gather ct 0 n).length = n * s := by
  have hlen : ∀ x, x < n → (ct.get (0 + x)).length = s := fun x hx => by rw [Nat.zero_add]; exact (h.2 x hx).1
  have hgl : (gather ct 0 n).length = n * s := by
    have : ∀ (n i : Nat), (∀ x, x < n → (ct.get (i + x)).length = s) → (gather ct i n).length = n * s := by
      intro n
      induction n with
      | zero => intro i _; simp [gather]
      | succ n ih =>
        intro i hi
        simp only [gather, List.length_append]
        rw [ih (i + 1) (fun x hx => by have := hi (x + 1) (by omega); rwa [show i + 1 + x = i + (x + 1) from by omega])]
        have := hi 0 (by omega)
        simp only [Nat.add_zero] at this
        rw [this, Nat.succ_mul]; omega
    exact this n 0 hlen
  have hat : ∀ z, z < n * s → ∃ v, cs[z]? = some v ∧ Ev.isCell v = true ∧ ∀ c, (gather ct 0 n)[z]? = some c → c.val? α = some v := by
    intro z hz
    have hq : z / s < n := Nat.div_lt_of_lt_mul (by rw [Nat.mul_comm]; exact hz)
    have hr : z % s < s := Nat.mod_lt _ hs
    have hzq : z / s * s + z % s = z := by rw [Nat.mul_comm]; exact Nat.div_add_mod z s
    have hl := (h.2 _ hq).1
    have hge : (ct.get (z / s))[z % s]? = some ((ct.get (z / s))[z % s]'(by omega)) := List.getElem?_eq_getElem _
    obtain ⟨v, a1, a2, a3⟩ := (h.2 _ hq).2 _ _ hge
    rw [hzq] at a2
    refine ⟨v, a2, a3, fun c hc => ?_⟩
    have := gather_get n 0 hlen (z / s) (z % s) hq hr
    rw [hzq, hc, Nat.zero_add, hge] at this
    cases this
    exact a1
  refine ⟨Reps.mk (by simp [hgl, h.1]) fun z c hc => ?_, fun v hv => ?_, hgl⟩
  · have hz : z < n * s := by rw [← hgl]; exact (List.getElem?_eq_some_iff.1 hc).1
    obtain ⟨v, x1, x2, x3⟩ := hat z hz
    exact ⟨v, by simpa using x1, x3 c hc⟩
  · obtain ⟨z, hz⟩ := List.getElem?_of_mem hv
    have hzn : z < n * s := by
      have := (List.getElem?_eq_some_iff.1 hz).1
      simp [h.1] at this
      exact this
    obtain ⟨u, x1, x2, x3⟩ := hat z hzn
    rw [Array.getElem?_toList] at hz
    rw [x1] at hz; cases hz
    exact x2

/-- Elements stored from element q on. -/
theorem Good.over {d : Den} {mk : MK} {T' : TypeId} {m q : Nat} {ct ct' new : Ct} {cs : Array Value} (hmk : mk ≠ .ext) (hg : Good α w d (.mem true mk T' m ct)) (hf : FlatCt α m new new.len cs)
    (hq : q + new.len ≤ ct.len) (ho : ct.over q new = some ct') :
    ∃ w', (storeCells ⟨d.blk, d.off + q * m, none⟩ cs.toList).run P w = .ok () w' ∧ w'.heap.size = w.heap.size ∧ (∀ b, b ≠ d.blk → w'.heap[b]? = w.heap[b]?) ∧ w'.tape = w.tape ∧ w'.os = w.os ∧
      w'.output = w.output ∧ Good α w' d (.mem true mk T' m ct') := by
  have hm : 0 < m := hg.2.1
  obtain ⟨hr, hc, hgl⟩ := hf.reps hm
  obtain ⟨h1, h2⟩ := Ct.over_spec hq ho
  have hqm := Nat.mul_le_mul_right m hq
  rw [Nat.add_mul] at hqm
  refine Good.stored hmk hg hr hc (by rw [hgl]; exact hqm) h1 fun i hi => ?_
  rw [h2 i hi]
  by_cases hin : q ≤ i ∧ i < q + new.len
  · rw [if_pos hin]
    have hl := (hf.2 (i - q) (by omega)).1
    refine ⟨hl, fun j c hj => .inl ?_⟩
    have hjm : j < m := by rw [← hl]; exact (List.getElem?_eq_some_iff.1 hj).1
    have e1 : i * m = q * m + (i - q) * m := by rw [← Nat.add_mul]; congr 1; omega
    have e2 := mul_lt_of (s := m) (show i - q < new.len from by omega)
    rw [hgl]
    refine ⟨by omega, by omega, ?_⟩
    rw [show i * m + j - q * m = (i - q) * m + j from by omega]
    rw [gather_get new.len 0 (fun x hx => by rw [Nat.zero_add]; exact (hf.2 x hx).1) (i - q) j (by omega) hjm, Nat.zero_add]
    exact hj
  · rw [if_neg hin]
    refine ⟨(hg.cell hi).1, fun j c hj => .inr ⟨?_, hj⟩⟩
    have hjm : j < m := by rw [← (hg.cell hi).1]; exact (List.getElem?_eq_some_iff.1 hj).1
    rw [hgl]
    by_cases hlt : i < q
    · have := mul_lt_of (s := m) hlt; omega
    · have h3 : (q + new.len) * m ≤ i * m := Nat.mul_le_mul_right m (by omega)
      rw [Nat.add_mul] at h3
      omega

theorem evGrown_sound {T T2 ty e s bytes n sCap : Nat} {base : Option Addr} {xv : Value} {new old : Ct} {z : Value} {k : SV → St → Prop} (hR : R α st w)
    (hu : P.underlying T = some (.slice e)) (hs : tSize P e = some s) (hby : tBytes P e = some bytes) (hz : tZero P e = some z) (hzs : z.cells.size = s)
    (hsp : 0 < s) (hbp : 0 < bytes) (hsrc : ASrc P α w T2 e s xv new) (hold : old.len = n)
    (hbase : ∃ cs, FlatCt α s old n cs ∧ ∀ w' : World, w'.heap = w.heap → (Builtin.firstCells s n (.slice base n sCap)).run P w' = .ok cs w')
    (hg : sCap < n + new.len) (h : evGrown st e s bytes n old new k) :
    Got P α st w (Builtin.append_ #[T, T2] ty #[.slice base n sCap, xv]) k := by
  unfold evGrown at h
  obtain ⟨h1, h⟩ := need_iff.1 h
  have h1 : (n + new.len) * bytes ≤ 2 ^ 47 := by simpa using h1
  obtain ⟨ct', ha, h⟩ := opt_iff.1 h
  obtain ⟨cap, c1, c2, c3, x1, x2, x3, x4, x5⟩ := run_append_grows (ty := ty) hu hs hby hz hbp hsrc hbase hg h1
  obtain ⟨a1, a2⟩ := Ct.app_spec ha
  have hsz : cap * s = (c1 ++ c2 ++ c3).size := by
    have e1 : c3.size = (cap - (n + new.len)) * s := by rw [x4]; simp [Builtin.zeroCells, hzs]
    have e2 : cap * s = (n + new.len + (cap - (n + new.len))) * s := by congr 1; omega
    rw [Array.size_append, Array.size_append, x2.1, x3.1, e1, e2, Nat.add_mul, Nat.add_mul]
  have hto := To.row (T := e) (mk := .row) (m := s) (cap := cap) (ct := ct') (cs := c1 ++ c2 ++ c3) (fz := (0, 0)) (To.drew hR).rep (by simp) hsp (.inl rfl) hsz (by omega) (by simp) (by
    intro i hi
    rw [a1] at hi
    rw [a2 i (by omega)]
    by_cases hin : i < old.len
    · rw [if_pos hin]
      have := x2.2 i (by omega)
      refine ⟨this.1, fun j c hj => ?_⟩
      obtain ⟨v, y1, y2, y3⟩ := this.2 j c hj
      have hjs : j < s := by rw [← this.1]; exact (List.getElem?_eq_some_iff.1 hj).1
      have hlt := mul_lt_of (s := s) (show i < n from by omega)
      refine ⟨v, y1, ?_, y3⟩
      show (c1 ++ c2 ++ c3)[i * s + j]? = some v
      rw [getElem?_append_pad _ (by rw [x2.1]; omega), if_pos (by rw [x2.1]; omega)]
      exact y2
    · rw [if_neg hin]
      have := x3.2 (i - old.len) (by omega)
      refine ⟨this.1, fun j c hj => ?_⟩
      obtain ⟨v, y1, y2, y3⟩ := this.2 j c hj
      have hjs : j < s := by rw [← this.1]; exact (List.getElem?_eq_some_iff.1 hj).1
      have hlt := mul_lt_of (s := s) (show i - old.len < new.len from by omega)
      have e1 : i * s = n * s + (i - old.len) * s := by rw [← Nat.add_mul]; congr 1; omega
      refine ⟨v, y1, ?_, y3⟩
      show (c1 ++ c2 ++ c3)[i * s + j]? = some v
      rw [getElem?_append_pad _ (by rw [x2.1, x3.1]; omega), if_neg (by rw [x2.1]; omega), x2.1, show i * s + j - n * s = (i - old.len) * s + j from by omega]
      exact y2)
  refine ⟨_, _, _, _, _, x5, ?_, h, (To.drew hR).trans hto⟩
  simp [SV.rep, SA.rep, SC.val?, Al.add_same]

theorem run_append_inplace {T T2 ty e s n sCap m : Nat} {base : Addr} {xv : Value} {cs : Array Value} {w' : World}
    (hu : P.underlying T = some (.slice e)) (hs : tSize P e = some s) (hrun : AppRun P w T2 e s xv m cs) (hle : n + m ≤ sCap) (hst : (storeCells (base.add (n * s)) cs.toList).run P w = .ok () w') :
    (Builtin.append_ #[T, T2] ty #[.slice (some base) n sCap, xv]).run P w = .ok (.slice (some base) (n + m) sCap) w' := by
  rcases hrun with ⟨⟨d2, hd2, hne⟩, hlen, hr2⟩ | ⟨kk, k2, l, inf, z, g1, rfl, g3, g4, g5, g6, g7, g8, rfl, rfl⟩
  · have hsrc := hr2 w rfl
    simp only [Builtin.append_]
    simp [run_underlying hu, run_underlying hd2, run_size hs, hlen, hle, hsrc, hst]
  · have hw := wrap64 g3 g4
    have q1 : ¬ l < 0 := by omega
    have q2 : ¬ (281474976710656 < l * (inf.bytes : Int)) := by omega
    have hs' : inf.size = s := by simpa [tSize, g5] using hs
    by_cases h0 : l.toNat * s = 0
    · rw [zeroCells_nil g8 h0] at hst
      have h0' := h0
      simp only [Builtin.append_]
      simp [run_underlying hu, run_underlying g1, asInt, asIntOf, hw, q1, sizeOf, typeInfo, zeroValue, g5, g7, hs', q2, hle]
      rw [if_pos (by simpa using h0)]
      have hst2 : (storeCells (base.add (n * s)) []).run P w = .ok () w' := by simpa using hst
      simp only [hst2, Result.andThen_ok]
    · simp only [Builtin.append_]
      simp [run_underlying hu, run_underlying g1, asInt, asIntOf, hw, q1, sizeOf, typeInfo, zeroValue, g5, g7, hs', q2, hle]
      rw [if_neg (by simpa using h0)]
      simp only [hst, Result.andThen_ok]

theorem run_append_nothing {T T2 ty e s n sCap : Nat} {base : Option Addr} {xv : Value} {new : Ct}
    (hu : P.underlying T = some (.slice e)) (hs : tSize P e = some s) (hsrc : ASrc P α w T2 e s xv new) (h0 : new.len = 0) (hle : n ≤ sCap) :
    (Builtin.append_ #[T, T2] ty #[.slice base n sCap, xv]).run P w = .ok (.slice base n sCap) w := by
  obtain ⟨cs, hf, hr⟩ := hsrc
  have hcs : cs = #[] := by
    have := hf.1
    rw [h0] at this
    simpa using this
  subst hcs
  cases base with
  | some b =>
    have := run_append_inplace (ty := ty) (T := T) (base := b) (n := n) (sCap := sCap) hu hs hr (by omega) (w' := w) (by simp [storeCells])
    rw [h0] at this
    exact this
  | none =>
    rcases hr with ⟨⟨d2, hd2, hne⟩, hlen, hr2⟩ | ⟨kk, k2, l, inf, z, g1, rfl, g3, g4, g5, g6, g7, g8, g9, g10⟩
    · have hr' := hr2 w rfl
      rw [h0] at hlen hr'
      simp only [Builtin.append_]
      simp [run_underlying hu, run_underlying hd2, run_size hs, hlen, hle, hr']
    · have hw := wrap64 g3 g4
      have hl0 : l = 0 := by omega
      subst hl0
      have hs' : inf.size = s := by simpa [tSize, g5] using hs
      simp only [Builtin.append_]
      simp [run_underlying hu, run_underlying g1, asInt, asIntOf, hw, sizeOf, typeInfo, zeroValue, g5, g7, hs', hle]


end Go.Ev

/- THE ENGINE, part 9: append, copy, clear, make, conversions, len, cap. -/
namespace Go.Ev
open Go
variable {P : Program} {α : Al} {st : St} {w : World}

theorem Good.writes {d : Den} {mk : MK} {T' : TypeId} {m : Nat} {ct : Ct} (hg : Good α w d (.mem true mk T' m ct)) (hmk : mk ≠ .ext) : (SO.mem true mk T' m ct).wr = true := by
  cases mk <;> first | rfl | exact absurd rfl hmk

theorem evAppendAt_sound {T T2 ty e s bytes o i n : Nat} {c : Option Nat} {av xv z : Value} {new : Ct} {k : SV → St → Prop} (hR : R α st w)
    (hu : P.underlying T = some (.slice e)) (hs : tSize P e = some s) (hby : tBytes P e = some bytes) (hz : tZero P e = some z) (hzs : z.cells.size = s)
    (hsp : 0 < s) (hbp : 0 < bytes) (hsrc : ASrc P α w T2 e s xv new) (ha : (SC.sl o i n c).val? α = some av)
    (h : evAppendAt st e s bytes o i n c new k) : Got P α st w (Builtin.append_ #[T, T2] ty #[av, xv]) k := by
  unfold evAppendAt at h
  split at h
  · rename_i wb mk T' m ct hst
    obtain ⟨d, hd, hg⟩ := hR.good o _ hst
    have hdm : d.m = m := hg.1
    simp only [SC.val?, hd, Option.some.injEq] at ha
    -- the elements that are there
    have base : ∀ cap, m = s → i + n ≤ ct.len → ∃ cs, FlatCt α s (ct.sub i n) n cs ∧ ∀ w' : World, w'.heap = w.heap → (Builtin.firstCells s n (.slice (some ⟨d.blk, d.off + i * d.m, none⟩) n cap)).run P w' = .ok cs w' := by
      intro cap hms hin
      subst hms
      have hsl : (SA.one (SC.sl o i n (some cap))).rep α (.slice (some ⟨d.blk, d.off + i * d.m, none⟩) n cap) := by simp [SA.rep, SC.val?, hd]
      obtain ⟨nw, ⟨rfl⟩, h1, h2⟩ := evSrc_sound (P := P) (s := m) (k := fun nw => nw = ct.sub i n) hR hsl (by simp [evSrc, hst, need, hin])
      exact h2 n (by rw [Ct.sub_len hin]; exact Nat.le_refl _)
    have inplace : ∀ cap ct', m = s → wb = true → mk ≠ .ext → i + n + new.len ≤ ct.len → n + new.len ≤ cap → ct.over (i + n) new = some ct' →
        ∃ w', (Builtin.append_ #[T, T2] ty #[.slice (some ⟨d.blk, d.off + i * d.m, none⟩) n cap, xv]).run P w = .ok (.slice (some ⟨d.blk, d.off + i * d.m, none⟩) (n + new.len) cap) w' ∧
          To α st w α (st.put o (some (.mem true mk T' m ct'))) w' := by
      intro cap ct' hms hwb hmk hin hcap ho
      subst hwb; subst hms
      obtain ⟨cs, hf, hr⟩ := hsrc
      obtain ⟨w', x1, x2, x3, x4, x5, x6, x7⟩ := Good.over (P := P) hmk hg hf hin ho
      refine ⟨w', run_append_inplace hu hs hr hcap ?_, To.upd hR hst hd (Good.writes hg hmk) (Good.writes x7 hmk) x2 x3 x4 x5 x6 x7⟩
      rw [addr_add, hdm, show d.off + i * m + n * m = d.off + (i + n) * m from by rw [Nat.add_mul]; omega]
      exact x1
    split at h
    · -- a capacity that is known
      rename_i c hms
      have hms : m = s := by simpa using hms
      simp only [Option.getD_some] at ha
      subst ha
      obtain ⟨hnc, h⟩ := need_iff.1 h
      have hnc : n ≤ c := by simpa using hnc
      rcases branch_or h with ⟨hle, h⟩ | ⟨hle, h⟩
      · have hle : n + new.len ≤ c := by simpa using hle
        rcases branch_or h with ⟨h0, h⟩ | ⟨h0, h⟩
        · have h0 : new.len = 0 := by simpa using h0
          exact Got.pure hR (run_append_nothing hu hs hsrc h0 hnc) (by simp [SV.rep, SA.rep, SC.val?, hd]) h
        · unfold evPutKnown at h
          split at h
          · obtain ⟨hin, h⟩ := need_iff.1 h
            obtain ⟨ct', ho, h⟩ := opt_iff.1 h
            obtain ⟨w', x1, x2⟩ := inplace c ct' hms rfl (by simp) (by simpa using hin) hle ho
            exact ⟨_, w', α, _, _, x1, by simp [SV.rep, SA.rep, SC.val?, hd], h, x2⟩
          · obtain ⟨hin, h⟩ := need_iff.1 h
            obtain ⟨ct', ho, h⟩ := opt_iff.1 h
            obtain ⟨w', x1, x2⟩ := inplace c ct' hms rfl (by simp) (by simpa using hin) hle ho
            exact ⟨_, w', α, _, _, x1, by simp [SV.rep, SA.rep, SC.val?, hd], h, x2⟩
          · exact h.elim
      · have hle : c < n + new.len := by
          have : ¬ (n + new.len ≤ c) := by simpa using hle
          omega
        obtain ⟨hin, h⟩ := need_iff.1 h
        have hin : i + n ≤ ct.len := by simpa using hin
        exact evGrown_sound hR hu hs hby hz hzs hsp hbp hsrc (Ct.sub_len hin) (base c hms hin) hle h
    · -- whole
      rename_i hms
      have hms : m = s := by simpa using hms
      have hcap : ct.len = d.cap := by
        obtain ⟨_, _, cs, fz, h5, h6, h7, h8, h9, h10⟩ := hg
        exact h9 rfl
      simp only [Option.getD_none] at ha
      subst ha
      rcases branch_or h with ⟨hin, h⟩ | ⟨hin, h⟩
      · have hin : i + n + new.len ≤ ct.len := by simpa using hin
        unfold evPutEnd at h
        split at h
        · obtain ⟨ct', ho, h⟩ := opt_iff.1 h
          obtain ⟨w', x1, x2⟩ := inplace (d.cap - i) ct' hms rfl (by simp) hin (by omega) ho
          exact ⟨_, w', α, _, _, x1, by simp [SV.rep, SA.rep, SC.val?, hd], h, x2⟩
        · obtain ⟨h0, h⟩ := need_iff.1 h
          have h0 : new.len = 0 := by simpa using h0
          exact Got.pure hR (run_append_nothing hu hs hsrc h0 (by omega)) (by simp [SV.rep, SA.rep, SC.val?, hd]) h
      · have hin : ¬ (i + n + new.len ≤ ct.len) := by simpa using hin
        obtain ⟨hin2, h⟩ := need_iff.1 h
        have hin2 : i + n ≤ ct.len := by simpa using hin2
        exact evGrown_sound hR hu hs hby hz hzs hsp hbp hsrc (Ct.sub_len hin2) (base _ hms hin2) (by omega) h
    · -- row
      rename_i hms
      have hms : m = s := by simpa using hms
      have hcap : ct.len ≤ d.cap := by
        obtain ⟨_, _, cs, fz, h5, h6, h7, h8, h9, h10⟩ := hg
        exact h8
      simp only [Option.getD_none] at ha
      subst ha
      rcases branch_or h with ⟨hin, h⟩ | ⟨hin, h⟩
      · have hin : i + n + new.len ≤ ct.len := by simpa using hin
        unfold evPutEnd at h
        split at h
        · obtain ⟨ct', ho, h⟩ := opt_iff.1 h
          obtain ⟨w', x1, x2⟩ := inplace (d.cap - i) ct' hms rfl (by simp) hin (by omega) ho
          exact ⟨_, w', α, _, _, x1, by simp [SV.rep, SA.rep, SC.val?, hd], h, x2⟩
        · obtain ⟨h0, h⟩ := need_iff.1 h
          have h0 : new.len = 0 := by simpa using h0
          exact Got.pure hR (run_append_nothing hu hs hsrc h0 (by omega)) (by simp [SV.rep, SA.rep, SC.val?, hd]) h
      · have hin : ¬ (i + n + new.len ≤ ct.len) := by simpa using hin
        unfold evRegrow at h
        split at h
        · rename_i hTe _
          have hTe : T' = e := by simpa using hTe
          obtain ⟨hin2, h⟩ := need_iff.1 h
          have hin2 : i + n ≤ ct.len := by simpa using hin2
          by_cases hroom : n + new.len ≤ d.cap - i
          · -- there is room behind the content
            obtain ⟨h1, h⟩ := need_iff.1 h
            obtain ⟨ct', happ, h⟩ := opt_iff.1 h
            obtain ⟨a1, a2⟩ := Ct.app_spec happ
            rw [Ct.sub_len hin2] at a1 a2
            have hm := hsp
            obtain ⟨_, _, cs, fz, h5, h6, h7, h8, h9, h10⟩ := hg
            obtain ⟨ns, hf, hr⟩ := hsrc
            obtain ⟨_, hcell, _⟩ := hf.reps hm
            have hcapm : (i + n + new.len) * s ≤ d.cap * s := Nat.mul_le_mul_right s (by omega)
            rw [Nat.add_mul] at hcapm
            have hnl : ns.toList.length = new.len * s := by simp [hf.1]
            subst hms
            have hst2 := run_storeCells_fz (P := P) d.blk (d.off + (i + n) * m) T' fz ns.toList 0 cs w h5 h6 (by rw [hnl]; omega) hcell
            simp only [Nat.add_zero] at hst2
            have hrun := run_append_inplace (ty := ty) (n := n) (base := ⟨d.blk, d.off + i * d.m, none⟩) (sCap := d.cap - i) (T := T) hu hs hr hroom (by
              rw [addr_add, hdm, show d.off + i * m + n * m = d.off + (i + n) * m from by rw [Nat.add_mul]; omega]
              exact hst2)
            have hsz : (cs.toList.take (d.off + (i + n) * m) ++ ns.toList ++ cs.toList.drop (d.off + (i + n) * m + ns.toList.length)).toArray.size = cs.size := by
              have hns := hf.1
              simp
              omega
            have hlen : α st.length = none := hR.none _ (Nat.le_refl _)
            have hle := Al.le_add (d := ⟨d.blk, d.off + i * m, m, d.cap - i, .nilFunc⟩) hlen
            have him := Nat.mul_le_mul_right m (show i ≤ d.cap from by omega)
            have hto := To.regrow (e := ⟨d.blk, d.off + i * m, m, d.cap - i, .nilFunc⟩) (so' := .mem true .row e m ct')
              (w' := w.setRow d.blk (cs.toList.take (d.off + (i + n) * m) ++ ns.toList ++ cs.toList.drop (d.off + (i + n) * m + ns.toList.length)).toArray) hR hst hd rfl rfl rfl rfl (setRow_size _ _ _) (fun b hb => setRow_other _ _ _ hb) rfl rfl rfl
              ⟨rfl, hm, _, fz, by rw [← hTe]; exact setRow_heap w d.blk cs _ T' fz h5, by rw [hsz]; exact h6, by show d.off + i * m + (d.cap - i) * m = _; rw [hsz, ← h7, Nat.sub_mul]; omega, by rw [a1]; exact hroom, by simp, by
                intro x hx
                rw [a1] at hx
                rw [a2 x (by omega)]
                have e1 : d.off + i * m + x * m = d.off + (i + x) * m := by rw [Nat.add_mul]; omega
                by_cases hxn : x < n
                · rw [if_pos hxn, Ct.sub_get hxn]
                  have hc := h10 (i + x) (by omega)
                  refine ⟨hc.1, fun j c hj => ?_⟩
                  have hjs : j < m := by rw [← hc.1]; exact (List.getElem?_eq_some_iff.1 hj).1
                  obtain ⟨v, y1, y2, y3⟩ := hc.2 j c hj
                  refine ⟨v, SC.val?_mono hle y1, ?_, y3⟩
                  simp only [List.getElem?_toArray]
                  rw [e1, row_get _ _ _ (by rw [hnl]; simp; omega), if_neg ?_]
                  · simpa using y2
                  · have := mul_lt_of (s := m) (show i + x < i + n from by omega)
                    omega
                · rw [if_neg hxn]
                  have hc := hf.2 (x - n) (by omega)
                  refine ⟨hc.1, fun j c hj => ?_⟩
                  have hjs : j < m := by rw [← hc.1]; exact (List.getElem?_eq_some_iff.1 hj).1
                  obtain ⟨v, y1, y2, y3⟩ := hc.2 j c hj
                  refine ⟨v, SC.val?_mono hle y1, ?_, y3⟩
                  have := mul_lt_of (s := m) (show x - n < new.len from by omega)
                  have e2 : (i + x) * m = (i + n) * m + (x - n) * m := by rw [← Nat.add_mul]; congr 1; omega
                  simp only [List.getElem?_toArray]
                  rw [e1, row_get _ _ _ (by rw [hnl]; simp; omega), if_pos (by rw [hnl]; omega)]
                  rw [show d.off + (i + x) * m + j - (d.off + (i + n) * m) = (x - n) * m + j from by omega]
                  simpa using y2⟩
            rw [hdm]
            rw [hdm] at hrun
            rw [lenL_eq, St.length_put] at h
            refine ⟨_, _, _, _, _, hrun, ?_, h, hto⟩
            simp [SV.rep, SA.rep, SC.val?, Al.add_same]
          · have hk := To.kill hR o
            obtain ⟨v, w', α', sv, st', x1, x2, x3, x4⟩ := evGrown_sound (ty := ty) (sCap := d.cap - i) hk.rep hu hs hby hz hzs hsp hbp hsrc (Ct.sub_len hin2) (base _ hms hin2) (by omega) h
            exact ⟨v, w', α', sv, st', x1, x2, x3, hk.trans x4⟩
        · exact h.elim
    · exact h.elim
  · exact h.elim

theorem evMore_sound {T2 e s bytes : Nat} {z : Value} {x : SA} {xv : Value} {k : Ct → Prop} (hR : R α st w) (hs : tSize P e = some s) (hby : tBytes P e = some bytes) (hz : tZero P e = some z)
    (hzs : z.cells.size = s) (hx : x.rep α xv) (h : evMore P T2 s bytes z st x k) : ∃ new, k new ∧ ASrc P α w T2 e s xv new := by
  unfold evMore at h
  split at h
  · rename_i hT2
    obtain ⟨new, h, hsrc⟩ := evSrc_sound (P := P) hR hx h
    exact ⟨new, h, ASrc.of_src hT2 hsrc⟩
  · split at h
    · rename_i kk k2 l hT
      split at h
      · rename_i hc
        obtain ⟨g1, h⟩ := need_iff.1 h
        obtain ⟨g2, h⟩ := need_iff.1 h
        obtain ⟨g3, h⟩ := need_iff.1 h
        have g1 : 0 ≤ l := by simpa using g1
        have g2 : l < 2 ^ 63 := by simpa using g2
        have g3 : l * bytes ≤ 2 ^ 48 := by simpa using g3
        simp only [SA.rep, SC.val?, Option.some.injEq] at hx
        have hf := zeroCt_flat (α := α) (n := l.toNat) hzs hc
        cases hi : P.info? e with
        | none => simp [tSize, hi] at hs
        | some inf =>
          simp [tBytes, hi] at hby
          simp [tZero, hi] at hz
          refine ⟨_, h, Builtin.zeroCells z.cells l.toNat, ?_, .inr ⟨kk, k2, l, inf, z, hT, hx.symm, g1, g2, hi, by rw [hby]; exact g3, hz, hzs, zeroCt_len _ _, by rw [zeroCt_len]⟩⟩
          rw [zeroCt_len]
          have e : Builtin.zeroCells z.cells l.toNat = (Array.range (l.toNat * s)).map fun i => z.cells[i % z.cells.size]! := by
            simp only [Builtin.zeroCells, hzs]
          rw [e]
          exact hf
      · exact h.elim
    · exact h.elim

theorem evAppend_sound {T T2 ty : TypeId} {a x : SA} {av xv : Value} {k : SV → St → Prop} (hR : R α st w) (ha : a.rep α av) (hx : x.rep α xv) (h : evAppend P T T2 st a x k) :
    Got P α st w (Builtin.append_ #[T, T2] ty #[av, xv]) k := by
  unfold evAppend at h
  split at h
  · rename_i e hu
    split at h
    · rename_i s bytes z hs hby hz
      split at h
      · rename_i hd
        have hd : 0 < s ∧ 0 < bytes ∧ z.cells.size = s := by simpa using hd
        obtain ⟨h1, h2, h3⟩ := hd
        obtain ⟨new, h, hsrc⟩ := evMore_sound (P := P) (e := e) hR hs hby hz h3 hx h
        unfold evAppendWith at h
        split at h
        · -- nil
          simp only [SA.rep, SC.val?, Option.some.injEq] at ha
          subst ha
          rcases branch_or h with ⟨h0, h⟩ | ⟨h0, h⟩
          · have h0 : new.len = 0 := by simpa using h0
            exact Got.pure (sv := .sa (.one (.raw (.slice none 0 0)))) hR (run_append_nothing hu hs hsrc h0 (Nat.le_refl _)) rfl h
          · have h0 : ¬ new.len = 0 := by simpa using h0
            exact evGrown_sound (sCap := 0) hR hu hs hby hz h3 h1 h2 hsrc rfl ⟨#[], ⟨by simp, fun i hi => by omega⟩, fun w' _ => by simp [Builtin.firstCells]⟩ (by omega) h
        · exact evAppendAt_sound hR hu hs hby hz h3 h1 h2 hsrc ha h
        · -- an empty slice at a row's end
          rename_i q _
          split at h
          · rename_i o L hq
            split at h
            · rename_i T' m ct hst
              split at h
              · rename_i hms
                have hms : m = s ∧ T' = e := by simpa using hms
                obtain ⟨hms, hTe⟩ := hms
                obtain ⟨hL, h⟩ := need_iff.1 h
                have hL : ct.len = L := by simpa using hL
                obtain ⟨dq, hdq, d, a, c, g1, g2, g3⟩ := hR.good q _ hq
                simp only [SA.rep, SC.val?, hdq, Option.some.injEq] at ha
                rw [g2] at ha
                subst ha
                rcases branch_or h with ⟨h0, h⟩ | ⟨h0, h⟩
                · have h0 : new.len = 0 := by simpa using h0
                  refine Got.pure hR (run_append_nothing hu hs hsrc h0 (Nat.zero_le _)) ?_ h
                  simp [SV.rep, SA.rep, SC.val?, hdq, g2]
                · have h0 : ¬ new.len = 0 := by simpa using h0
                  have hk := To.kill hR o
                  by_cases hroom : 0 + new.len ≤ c
                  · -- it fits: then the slice lies at the content's end
                    rcases g3 with g3 | ⟨ga, gc⟩
                    · omega
                    · subst ga
                      obtain ⟨d', hd', hg⟩ := hR.good o _ hst
                      rw [g1] at hd'; cases hd'
                      obtain ⟨n1, h⟩ := need_iff.1 h
                      obtain ⟨ct', happ, h⟩ := opt_iff.1 h
                      obtain ⟨a1, a2⟩ := Ct.app_spec happ
                      rw [show (Ct.lst []).len = 0 from rfl] at a1 a2
                      rw [Nat.zero_add] at a1
                      obtain ⟨gm, _, cs, fz, h5, h6, h7, h8, h9, h10⟩ := hg
                      obtain ⟨ns, hf, hr⟩ := hsrc
                      obtain ⟨_, hcell, _⟩ := hf.reps h1
                      subst hms
                      have hcapm : (L + new.len) * m ≤ d.cap * m := Nat.mul_le_mul_right m (by omega)
                      rw [Nat.add_mul] at hcapm
                      have hnl : ns.toList.length = new.len * m := by simp [hf.1]
                      have hst2 := run_storeCells_fz (P := P) d.blk (d.off + L * m) T' fz ns.toList 0 cs w h5 h6 (by rw [hnl]; omega) hcell
                      simp only [Nat.add_zero] at hst2
                      have hrun := run_append_inplace (ty := ty) (n := 0) (base := ⟨d.blk, d.off + L * d.m, none⟩) (sCap := c) (T := T) hu hs hr hroom (by
                        rw [addr_add, gm, Nat.zero_mul, Nat.add_zero]
                        exact hst2)
                      have hsz : (cs.toList.take (d.off + L * m) ++ ns.toList ++ cs.toList.drop (d.off + L * m + ns.toList.length)).toArray.size = cs.size := by
                        have hns := hf.1
                        simp
                        omega
                      have hlen : α st.length = none := hR.none _ (Nat.le_refl _)
                      have hle := Al.le_add (d := ⟨d.blk, d.off + L * m, m, d.cap - L, .nilFunc⟩) hlen
                      have him := Nat.mul_le_mul_right m (show L ≤ d.cap from by omega)
                      have hto := To.regrow (e := ⟨d.blk, d.off + L * m, m, d.cap - L, .nilFunc⟩) (so' := .mem true .row e m ct')
                        (w' := w.setRow d.blk (cs.toList.take (d.off + L * m) ++ ns.toList ++ cs.toList.drop (d.off + L * m + ns.toList.length)).toArray) hR hst g1 rfl rfl rfl rfl (setRow_size _ _ _) (fun b hb => setRow_other _ _ _ hb) rfl rfl rfl
                        ⟨rfl, h1, _, fz, by rw [← hTe]; exact setRow_heap w d.blk cs _ T' fz h5, by rw [hsz]; exact h6, by show d.off + L * m + (d.cap - L) * m = _; rw [hsz, ← h7, Nat.sub_mul]; omega, by rw [a1]; show new.len ≤ d.cap - L; omega, by simp, by
                          intro x hx
                          rw [a1] at hx
                          rw [a2 x (by omega), if_neg (by omega), Nat.sub_zero]
                          have hc := hf.2 x (by omega)
                          refine ⟨hc.1, fun j c hj => ?_⟩
                          have hjs : j < m := by rw [← hc.1]; exact (List.getElem?_eq_some_iff.1 hj).1
                          obtain ⟨v, y1, y2, y3⟩ := hc.2 j c hj
                          refine ⟨v, SC.val?_mono hle y1, ?_, y3⟩
                          have := mul_lt_of (s := m) (show x < new.len from by omega)
                          simp only [List.getElem?_toArray]
                          rw [row_get _ _ _ (by rw [hnl]; simp; omega), if_pos (by rw [hnl]; omega)]
                          rw [show d.off + L * m + x * m + j - (d.off + L * m) = x * m + j from by omega]
                          simpa using y2⟩
                      rw [lenL_eq, St.length_put] at h
                      refine ⟨_, _, _, _, _, hrun, ?_, h, hto⟩
                      simp [SV.rep, SA.rep, SC.val?, Al.add_same, gm, gc]
                  · obtain ⟨v, w', α', sv, st', x1, x2, x3, x4⟩ := evGrown_sound (ty := ty) (T := T) (n := 0) (sCap := c) (base := some a) (old := .lst []) hk.rep hu hs hby hz h3 h1 h2 hsrc rfl
                      ⟨#[], ⟨by simp, fun i hi => by omega⟩, fun w' _ => by simp [Builtin.firstCells, loadCells, loadCellsFrom]⟩ (by omega) h
                    exact ⟨v, w', α', sv, st', x1, x2, x3, hk.trans x4⟩
              · exact h.elim
            · exact h.elim
          · exact h.elim
        · exact h.elim
      · exact h.elim
    · exact h.elim
  · exact h.elim

/-! ### copy, clear -/
theorem evCopy_sound {T T2 ty : TypeId} {a x : SA} {av xv : Value} {k : SV → St → Prop} (hR : R α st w) (ha : a.rep α av) (hx : x.rep α xv) (h : evCopy P T st a x k) :
    Got P α st w (Builtin.copy_ #[T, T2] ty #[av, xv]) k := by
  unfold evCopy at h
  split at h
  · rename_i e hu
    split at h
    · rename_i s hs
      obtain ⟨new, h, hsrc⟩ := evSrc_sound (P := P) hR hx h
      unfold evCopyWith at h
      split at h
      · rename_i o i n c _
        split at h
        · rename_i mk T' m ct hst
          obtain ⟨d, hd, hg⟩ := hR.good o _ hst
          have hdm : d.m = m := hg.1
          simp only [SA.rep, SC.val?, hd, Option.some.injEq] at ha
          subst ha
          have fin : m = s → mk ≠ .ext → need (decide (i + n ≤ ct.len)) (opt (ct.over i (new.sub 0 (Nat.min new.len n))) fun ct' =>
                k (.sa (.one (.raw (.int .i64 (Nat.min new.len n : Nat))))) (st.put o (some (.mem true mk T' m ct')))) →
              Got P α st w (Builtin.copy_ #[T, T2] ty #[.slice (some ⟨d.blk, d.off + i * d.m, none⟩) n (c.getD (d.cap - i)), xv]) k := by
            intro hms hmk g
            clear h
            subst hms
            obtain ⟨hin, g⟩ := need_iff.1 g
            have hin : i + n ≤ ct.len := by simpa using hin
            obtain ⟨ct', ho, g⟩ := opt_iff.1 g
            have hmin : Nat.min new.len n ≤ new.len := Nat.min_le_left _ _
            have hmin2 : Nat.min new.len n ≤ n := Nat.min_le_right _ _
            have hsl : (new.sub 0 (Nat.min new.len n)).len = Nat.min new.len n := Ct.sub_len (by omega)
            obtain ⟨ns, hf, hr⟩ := hsrc.2 (Nat.min new.len n) hmin
            have hf' : FlatCt α m (new.sub 0 (Nat.min new.len n)) (new.sub 0 (Nat.min new.len n)).len ns := by
              rw [hsl]
              refine ⟨hf.1, fun y hy => ?_⟩
              rw [Ct.sub_get hy, Nat.zero_add]
              exact hf.2 y hy
            obtain ⟨w', x1, x2, x3, x4, x5, x6, x7⟩ := Good.over (P := P) hmk hg hf' (by rw [hsl]; omega) ho
            refine ⟨.int .i64 (Nat.min new.len n : Nat), w', α, .sa (.one (.raw (.int .i64 (Nat.min new.len n : Nat)))), _, ?_, rfl, g, To.upd hR hst hd (Good.writes hg hmk) (Good.writes x7 hmk) x2 x3 x4 x5 x6 x7⟩
            rw [← hdm] at x1
            have hr' := hr w rfl
            simp only [Builtin.copy_]
            simp [run_underlying hu, run_size hs, hsrc.1, hr', x1, goInt]
          split at h
          · rename_i hms; exact fin (by simpa using hms) (by simp) h
          · rename_i hms; exact fin (by simpa using hms) (by simp) h
          · exact h.elim
        · exact h.elim
      · rename_i c _
        simp only [SA.rep, SC.val?, Option.some.injEq] at ha
        subst ha
        refine Got.pure (sv := .sa (.one (.raw (.int .i64 0)))) (v := .int .i64 0) hR ?_ rfl h
        obtain ⟨cs, hf, hr⟩ := hsrc.2 0 (Nat.zero_le _)
        have hr' := hr w rfl
        simp only [Builtin.copy_]
        simp [run_underlying hu, run_size hs, hsrc.1, hr', goInt]
      · exact h.elim
    · exact h.elim
  · exact h.elim

end Go.Ev

/- THE ENGINE, part 10: clear, make, conversions, len, cap; maps. -/
namespace Go.Ev
open Go
variable {P : Program} {α : Al} {st : St} {w : World}

theorem evMakeSlice_sound {T : TypeId} {a b : SA} {av bv : Value} {k : SV → St → Prop} (hR : R α st w) (ha : a.rep α av) (hb : b.rep α bv) (h : evMakeSlice P T st a b k) :
    Got P α st w (Instr.makeSlice T av bv) k := by
  unfold evMakeSlice at h
  split at h
  · rename_i e k1 l k2 c hu
    simp only [SA.rep, SC.val?, Option.some.injEq] at ha hb
    subst ha; subst hb
    split at h
    · rename_i z s bytes hz hs hby
      split at h
      · rename_i hd
        have hd : 0 < s ∧ z.cells.size = s ∧ allCells (z.cells.toList.map .raw) = true := by simpa using hd
        obtain ⟨g1, h⟩ := need_iff.1 h
        obtain ⟨g2, h⟩ := need_iff.1 h
        obtain ⟨g3, h⟩ := need_iff.1 h
        obtain ⟨g4, h⟩ := need_iff.1 h
        have g1 : 0 ≤ l := by simpa using g1
        have g2 : l ≤ c := by simpa using g2
        have g3 : c * bytes ≤ 2 ^ 47 := by simpa using g3
        have g4 : c < 2 ^ 63 := by simpa using g4
        have hf := zeroCt_flat (α := α) (n := c.toNat) hd.2.1 hd.2.2
        have hto := To.row (T := e) (mk := .whole) (m := s) (cap := c.toNat) (ct := zeroCt c.toNat z.cells.toList) (fz := (0, 0)) hR (by simp) hd.1 (.inl rfl) hf.1.symm (by rw [zeroCt_len]; exact Nat.le_refl _) (fun _ => zeroCt_len _ _)
          (by intro i hi; rw [zeroCt_len] at hi; exact hf.2 i hi)
        have hwl : IntKind.i64.wrap l = l := IntWalk.i64_in _ (by omega)
        have hwc : IntKind.i64.wrap c = c := IntWalk.i64_in _ (by omega)
        cases hi : P.info? e with
        | none => simp [tSize, hi] at hs
        | some inf =>
          simp [tSize, hi] at hs
          simp [tBytes, hi] at hby
          simp [tZero, hi] at hz
          refine ⟨.slice (some ⟨w.heap.size, 0, none⟩) l.toNat c.toNat, _, _, _, _, ?_, ?_, h, hto⟩
          · have b1 : ¬ ((inf.bytes : Int) * c > 281474976710656) := by rw [hby, Int.mul_comm]; omega
            have b2 : ¬ c < 0 := by omega
            have b3 : ¬ l < 0 := by omega
            have b4 : ¬ l > c := by omega
            by_cases h0 : c.toNat * s = 0
            · have hc0 : c.toNat = 0 := by
                rcases Nat.mul_eq_zero.1 h0 with h | h
                · exact h
                · omega
              have he : ∀ f : Nat → Value, (Array.range 0).map f = #[] := fun f => Array.eq_empty_of_size_eq_zero (by simp)
              simp only [Instr.makeSlice, Sem.run_bind, run_under hu, Result.andThen_ok, asInt, asIntOf, typeInfo, run_program, hi, Sem.run_pure, hwl, hwc]
              simp [b1, b2, b3, b4, sizeOf, typeInfo, hi, hs, h0, newRow]
              rw [he, he]
            · simp only [Instr.makeSlice, Sem.run_bind, run_under hu, Result.andThen_ok, asInt, asIntOf, typeInfo, run_program, hi, Sem.run_pure, hwl, hwc]
              simp [b1, b2, b3, b4, sizeOf, typeInfo, zeroValue, hi, hs, hz, h0, newRow]
          · simp [SV.rep, SA.rep, SC.val?, Al.add_same]
      · exact h.elim
    · exact h.elim
  · exact h.elim

theorem run_clear_zero {z : Value} {s n : Nat} (hz : z.cells.size = s) : Builtin.zeroCells z.cells n = (Array.range (n * s)).map fun i => z.cells[i % z.cells.size]! := by
  simp [Builtin.zeroCells, hz]

theorem evClear_sound {T ty : TypeId} {a : SA} {av : Value} {k : SV → St → Prop} (hR : R α st w) (ha : a.rep α av) (h : evClear P T st a k) :
    Got P α st w (Builtin.clear_ #[T] ty #[av]) k := by
  unfold evClear at h
  split at h
  · rename_i e o i n c hu
    split at h
    · rename_i s z mk T' m ct hs hz hst
      obtain ⟨d, hd, hg⟩ := hR.good o _ hst
      have hdm : d.m = m := hg.1
      simp only [SA.rep, SC.val?, hd, Option.some.injEq] at ha
      subst ha
      have fin : m = s → z.cells.size = s → allCells (z.cells.toList.map .raw) = true → mk ≠ .ext → need (decide (i + n ≤ ct.len)) (opt (ct.over i (zeroCt n z.cells.toList)) fun ct' =>
          k (.tup []) (st.put o (some (.mem true mk T' m ct')))) → Got P α st w (Builtin.clear_ #[T] ty #[.slice (some ⟨d.blk, d.off + i * d.m, none⟩) n (c.getD (d.cap - i))]) k := by
        intro hms hzs hac hmk g
        clear h
        subst hms
        obtain ⟨hin, gB⟩ := need_iff.1 g
        have hin : i + n ≤ ct.len := by simpa using hin
        obtain ⟨ct', ho, gC⟩ := opt_iff.1 gB
        have hf := zeroCt_flat (α := α) (n := n) hzs hac
        have hf' : FlatCt α m (zeroCt n z.cells.toList) (zeroCt n z.cells.toList).len ((Array.range (n * m)).map fun i => z.cells[i % z.cells.size]!) := by rw [zeroCt_len]; exact hf
        obtain ⟨w', x1, x2, x3, x4, x5, x6, x7⟩ := Good.over (P := P) hmk hg hf' (by rw [zeroCt_len]; omega) ho
        by_cases h0 : n = 0
        · -- nothing is cleared
          subst h0
          have hrun : (Builtin.clear_ #[T] ty #[.slice (some ⟨d.blk, d.off + i * d.m, none⟩) 0 (c.getD (d.cap - i))]).run P w = .ok (.tuple #[]) w := by
            simp only [Builtin.clear_]
            simp [run_underlying hu]
          have hw : w' = w := by
            have : (Array.range (0 * m)).map (fun i => z.cells[i % z.cells.size]!) = #[] := Array.eq_empty_of_size_eq_zero (by simp)
            rw [this] at x1
            simp [storeCells] at x1
            exact x1.symm
          subst hw
          exact ⟨.tuple #[], w', α, .tup [], _, hrun, ⟨[], trivial, rfl⟩, gC, To.upd hR hst hd (Good.writes hg hmk) (Good.writes x7 hmk) x2 x3 x4 x5 x6 x7⟩
        · refine ⟨.tuple #[], w', α, .tup [], _, ?_, ⟨[], trivial, rfl⟩, gC, To.upd hR hst hd (Good.writes hg hmk) (Good.writes x7 hmk) x2 x3 x4 x5 x6 x7⟩
          simp only [Builtin.clear_]
          cases n with
          | zero => exact absurd rfl h0
          | succ n =>
            simp at x1
            simp [run_underlying hu, run_zero hz, run_clear_zero hzs, hdm, x1]
      split at h
      · rename_i hms; have hms := of_decide_eq_true hms; exact fin hms.1 hms.2.1 hms.2.2 (by simp) h
      · rename_i hms; have hms := of_decide_eq_true hms; exact fin hms.1 hms.2.1 hms.2.2 (by simp) h
      · exact h.elim
    · exact h.elim
  · rename_i e n c hu
    simp only [SA.rep, SC.val?, Option.some.injEq] at ha
    subst ha
    exact Got.pure (sv := .tup []) (v := .tuple #[]) hR (by simp only [Builtin.clear_]; simp [run_underlying hu]) ⟨[], trivial, rfl⟩ h
  · rename_i x y o hu
    split at h
    · rename_i es cl hst
      obtain ⟨d, hd, h1, xs, h2, h3⟩ := hR.good o _ hst
      simp only [SA.rep, SC.val?, hd, Option.some.injEq] at ha
      rw [h1] at ha
      subst ha
      have hlt : d.blk < w.heap.size := (Array.getElem?_eq_some_iff.1 h2).1
      refine ⟨.tuple #[], { w with heap := w.heap.setIfInBounds d.blk (.map #[] cl) }, α, .tup [], _, ?_, ⟨[], trivial, rfl⟩, h, To.upd hR hst hd rfl rfl (by simp) (fun b hb => by simp [Array.getElem?_setIfInBounds]; intro e; exact absurd e.symm hb) rfl rfl rfl ⟨h1, [], by simp [Array.getElem?_setIfInBounds, hlt], trivial⟩⟩
      simp only [Builtin.clear_]
      simp [run_underlying hu, getObj, setObj, Sem.run, h2]
    · exact h.elim
  · exact h.elim

/-! ### conversions -/
theorem ctInts_spec {k : IntKind} {ct : Ct} {l : List Int} (h : ctInts k ct = some l) : l.length = ct.len ∧ ∀ j, j < ct.len → ct.get j = [SC.raw (.int k (l[j]?.getD 0))] := by
  unfold ctInts at h
  split at h
  · split at h
    · rename_i hk; subst hk; cases h
      exact ⟨rfl, fun j hj => by simp [Ct.get]⟩
    · simp at h
  · obtain ⟨h1, h2⟩ := intsOf_spec h
    exact ⟨h1, fun j hj => by simpa [Ct.get] using h2 j hj⟩
  · simp at h

theorem evConvert_sound {T T' : TypeId} {x : SA} {xv : Value} {k : SV → St → Prop} (hR : R α st w) (hx : x.rep α xv) (h : evConvert P T T' st x k) :
    Got P α st w (convert T T' xv) k := by
  -- a slice turned to its own type: its row is marked
  have mark : ∀ (o i n : Nat) (c : Option Nat) (e : TypeId) (mk : MK) (T1 : TypeId) (m : Nat) (ct : Ct) (xv : Value), (SA.one (.sl o i n c)).rep α xv → P.underlying T = some (.slice e) → P.underlying e = some (.int .u8) →
      st.get o = some (.mem true mk T1 m ct) → mk ≠ .ext → k (.sa (.one (.sl o i n c))) st → Got P α st w (convert T T xv) k := by
    intro o i n c e mk T1 m ct xv hx hu he hst hmk h
    obtain ⟨d, hd, hg⟩ := hR.good o _ hst
    have hg0 := hg
    have hdm : d.m = m := hg.1
    simp only [SA.rep, SC.val?, hd, Option.some.injEq] at hx
    subst hx
    obtain ⟨g1, g2, h4⟩ := hg
    have h4' : ∃ (cs : Array Value) (fz : Nat × Nat), w.heap[d.blk]? = some (.cells cs T1 fz) ∧ fzOk cs.size fz ∧ d.off + d.cap * m = cs.size ∧ ct.len ≤ d.cap ∧ (mk = .whole → ct.len = d.cap) ∧
        ct.Cells α m fun i j => cs[d.off + i * m + j]? := by
      cases mk with
      | ext => exact absurd rfl hmk
      | whole => exact h4
      | row => exact h4
    obtain ⟨cs, fz, h5, h6, h7, h8, h9, h10⟩ := h4'
    have hlt : d.blk < w.heap.size := (Array.getElem?_eq_some_iff.1 h5).1
    have hsh : w.shape? d.blk = some (T1, cs.size) := by simp [World.shape?, h5]
    have hnew : (w.freeze ⟨d.blk, cs.size, none⟩ 1).heap[d.blk]? = some (.cells cs T1 (cs.size, cs.size + 1)) := by
      unfold World.freeze
      rw [if_neg (by decide)]
      simp only [Array.getElem?_modify, if_true, h5, Option.map_some]
      rcases h6 with rfl | rfl
      · simp
      · simp
    have hfin : ∃ (cs' : Array Value) (fz : Nat × Nat), (w.freeze ⟨d.blk, cs.size, none⟩ 1).heap[d.blk]? = some (.cells cs' T1 fz) ∧ fzOk cs'.size fz ∧ d.off + d.cap * m = cs'.size ∧ ct.len ≤ d.cap ∧ (mk = .whole → ct.len = d.cap) ∧
        ct.Cells α m fun i j => cs'[d.off + i * m + j]? := ⟨cs, _, hnew, .inr rfl, h7, h8, h9, h10⟩
    have hgood : Good α (w.freeze ⟨d.blk, cs.size, none⟩ 1) d (.mem true mk T1 m ct) := by
      refine ⟨g1, g2, ?_⟩
      cases mk with
      | ext => exact absurd rfl hmk
      | whole => exact hfin
      | row => exact hfin
    have hto := To.upd (w' := w.freeze ⟨d.blk, cs.size, none⟩ 1) hR hst hd (Good.writes hg0 hmk) (Good.writes hg0 hmk) (by unfold World.freeze; simp) (fun b hb => by
      unfold World.freeze
      rw [if_neg (by decide)]
      simp only [Array.getElem?_modify]
      rw [if_neg (fun e => hb e.symm)]) (by unfold World.freeze; simp) (by unfold World.freeze; simp) (by unfold World.freeze; simp) hgood
    have hput : st.put o (some (.mem true mk T1 m ct)) = st := by
      rw [St.put_eq]
      have hlt := St.get_lt hst
      rw [St.get_eq, List.getElem?_eq_getElem hlt] at hst
      simp at hst
      rw [← hst]
      exact List.set_getElem_self hlt
    rw [hput] at hto
    refine ⟨.slice (some ⟨d.blk, d.off + i * d.m, none⟩) n (c.getD (d.cap - i)), _, _, _, _, ?_, ?_, h, hto⟩
    · simp [convert, run_under hu, run_under he, markStringish, hsh]
    · simp only [SV.rep, SA.rep, SC.val?, hd]
  unfold evConvert at h
  split at h
  · rename_i s
    simp only [SA.rep, SC.val?, Option.some.injEq] at hx
    subst hx
    split at h
    · rename_i h1 h2
      exact Got.pure (sv := .sa (.one (.raw (.string s)))) (v := .string s) hR (by simp [convert, run_under h1, run_under h2]) rfl h
    · rename_i e h1 h2
      split at h
      · rename_i h3
        have c2 := run_bytes_of_string (P := P) w T T' e s h1 h2 h3
        have c1 : s.size ≤ grownCap w s.size 0 e := by simp only [grownCap, Question.cut]; omega
        generalize grownCap w s.size 0 e = cap at c1 c2
        have hss : s.data.size = s.size := rfl
        have hsz : (bytesRow s cap).size = cap := by simp [bytesRow, hss]; omega
        have hto := To.row (T := e) (mk := .row) (m := 1) (cap := cap) (ct := rawInts .u8 s.data.toList) (cs := bytesRow s cap) (fz := ((bytesRow s cap).size, (bytesRow s cap).size + 1)) (To.drew hR).rep
          (by simp) (by simp) (.inr rfl) (by rw [hsz, Nat.mul_one]) (by simp [rawInts, Ct.len, hss, c1]) (by simp) (by
            intro i hi
            simp [rawInts, Ct.len, hss] at hi
            refine ⟨by simp [rawInts, Ct.get], fun j c hj => ?_⟩
            simp only [rawInts, Ct.get] at hj
            cases j with
            | succ j => simp at hj
            | zero =>
              have hib : i < s.data.size := hi
              simp at hj
              subst hj
              refine ⟨_, rfl, ?_, rfl⟩
              simp only [Nat.mul_one, Nat.add_zero, bytesRow]
              rw [Array.getElem?_append_left (by simpa using hib), Array.getElem?_map, Array.getElem?_eq_getElem hib]
              rfl)
        refine ⟨_, _, _, _, _, c2, ?_, h, (To.drew hR).trans hto⟩
        simp [SV.rep, SA.rep, SC.val?, Al.add_same]
      · exact h.elim
    · exact h.elim
  · rename_i v hv
    simp only [SA.rep, SC.val?, Option.some.injEq] at hx
    subst hx
    obtain ⟨r, hr, h⟩ := opt_iff.1 h
    exact Got.pure (sv := .sa (.one (.raw r))) hR (pureSem_run hr w) rfl h
  · rename_i o i n c
    split at h
    · rename_i e0 e h1 h2
      split at h
      · rename_i hT h3 _
        have hT : T = T' := by simpa using hT
        subst hT
        exact mark o i n c e _ _ _ _ _ hx h2 h3 ‹_› (by simp) h
      · rename_i hT h3 _
        have hT : T = T' := by simpa using hT
        subst hT
        exact mark o i n c e _ _ _ _ _ hx h2 h3 ‹_› (by simp) h
      · exact h.elim
    · rename_i e h1 h2
      split at h
      · rename_i wb mk T1 m ct h3 hst
        split at h
        · rename_i hm
          have hm : m = 1 := by simpa using hm
          subst hm
          obtain ⟨hin, h⟩ := need_iff.1 h
          have hin : i + n ≤ ct.len := by simpa using hin
          obtain ⟨l, hl, h⟩ := opt_iff.1 h
          obtain ⟨d, hd, hg⟩ := hR.good o _ hst
          have hdm : d.m = 1 := hg.1
          simp only [SA.rep, SC.val?, hd, Option.some.injEq] at hx
          subst hx
          obtain ⟨cs, hf, hrun⟩ := hg.flat (P := P) hin w rfl
          obtain ⟨l1, l2⟩ := ctInts_spec hl
          rw [Ct.sub_len hin] at l1 l2
          have hcs : cs = (l.map fun n => Value.int .u8 n).toArray := by
            apply Array.ext'
            apply List.ext_getElem?
            intro j
            by_cases hj : j < n
            · have := (hf.2 j hj).2 0 (.raw (.int .u8 (l[j]?.getD 0))) (by rw [l2 j hj]; rfl)
              obtain ⟨v, x1, x2, _⟩ := this
              simp [SC.val?] at x1
              subst x1
              have hjl : j < l.length := by omega
              simp at x2
              simp [x2, hjl]
            · rw [List.getElem?_eq_none (by simp [hf.1]; omega), List.getElem?_eq_none (by simp; omega)]
          refine Got.pure (sv := .sa (.one (.raw (.string ⟨(l.map byteOfInt).toArray⟩)))) (v := .string ⟨(l.map byteOfInt).toArray⟩) hR ?_ rfl h
          have hrun' : (loadCells ⟨d.blk, d.off + i * d.m, none⟩ n).run P w = .ok (l.map (Value.int .u8)).toArray w := by
            rw [hdm]
            rw [hcs, Nat.mul_one n] at hrun
            exact hrun
          rw [run_convert_bytes_string w T T' e _ n _ h1 h3 h2, run_bytesToString w _ n _ l hrun', foldl_push_bytes]
          simp [ByteArray.empty, ByteArray.emptyWithCapacity]
          rfl
        · exact h.elim
      · exact h.elim
    · exact h.elim
  · exact h.elim

end Go.Ev
