/-
  A verification-condition generator over the model's Code: definitions. A function's slices and structs are carried BY VALUE (D); what the call itself makes and writes lies in boxes, named by the slot of the operation that made them. 'vc' walks the code; 'VCS' are its equations, for 'simp only'. Soundness: the text '..Vs'. Conditions: none; nothing here is trusted.
  The relations behind the verification-condition generator: what it means that a value, in a world, is an abstract one; that a frame and a world are as an abstract state says; and that these are kept by the steps of a walk. Conditions: none.
  Soundness of the verification-condition generator, first part: the invariant of a walk is kept by a written slot and by a changed box. Conditions: none.
  Soundness of the verification-condition generator, second part: contracts; each operation but calls does to a frame and a world what it does to an abstract state. Conditions: none.
  Soundness of the verification-condition generator, third part: reads, addresses, arithmetic. Conditions: none.
  Soundness of the verification-condition generator, fourth part: addresses, arithmetic, comparisons. Conditions: none.
  Soundness of the verification-condition generator, fifth part: comparisons, arithmetic, parts of slices and strings, conversions, lengths. Conditions: none.
  Soundness of the verification-condition generator, sixth part: operators, conversions, parts of slices and strings, lengths. Conditions: none.
-/
import Derived.WalkKit
import Derived.Below

section
set_option linter.unusedVariables false
set_option linter.unusedSimpArgs false
namespace Go.Vx
open Go

inductive D where
  | sc (v : Value)
  | sl (xs : List (List D))

inductive AV where
  | top
  | c (d : D)
  | ag (ds : List D)
  | tp (vs : List AV)
  | osl (id ver : Nat)
  | bp (id off : Nat)
  | op (id ver i sz off : Nat)
  | ip (ds : List D)
  | mp (id : Nat)
  | fn (f : Nat) (cs : List AV)
  | fr (e : Nat) (xs : List (List D))
  | agv (vs : List AV)
  | fsl (id rv p : Nat)
  | fop (id rv p j sz off : Nat)
  | csl (id ver lo n sz : Nat)
  | cfl (id rv p n : Nat)
  | zp (T : Nat)

inductive Box where
  | dead
  | cells (cs : List AV)
  | arr (e ver : Nat) (xs : List (List D))
  | frz (ver : Nat) (xs : List (List D))
  | map (kt et : Nat) (es : List (Value × Value))
  | nest (e ver rv : Nat) (dt : Option Nat) (rows : List (List (List D)))

structure S where
  fr : List (Nat × AV)
  bx : List (Nat × Box)

def look (i : Nat) : List (Nat × AV) → AV
  | [] => .top
  | (j, v) :: r => cond (i == j) v (look i r)
def lookB (i : Nat) : List (Nat × Box) → Box
  | [] => .dead
  | (j, v) :: r => cond (i == j) v (lookB i r)

inductive TK where
  | other
  | int (k : IntKind)
  | str
  | bool
  | struct (fs : List (Nat × Nat))
  | array (n e : Nat)
  | slice (e : Nat)
  | map (k e : Nat)
structure TI where
  size : Nat
  bytes : Nat
  zero : List Value
  kind : TK
  own : Bool
abbrev Env := Nat → Option TI

abbrev Upd := List (Nat × Box)
inductive R where
  | val (v : AV) (u : Upd)
  | ob (p : Prop) (r : R)
  | br (t : Bool) (a b : R)
  | call (f : Nat) (args : List AV) (u : Upd) (raw : List AV)
  | callM (f : Nat) (raw : List AV)
  | yld (l : Nat) (fst caps : Array Value) (args : List AV)
  | bad

def constAV : Value → AV
  | .agg _ => .top
  | .tuple _ => .top
  | v => .c (.sc v)

def ev (fr : List (Nat × AV)) : Operand → AV
  | .tmp t => look t fr
  | .const v => constAV v
  | .global _ => .top
  | .func f => .fn f []

/-! what is by value: a cell, cells -/
/-- rows of an owned slice of owned slices, by value -/
def rowsD (rows : List (List (List D))) : List (List D) := rows.map fun r => [.sl r]
def toDB (id ver : Nat) : Box → Option (D × Upd)
  | .arr _ v xs => cond (v == ver) (some (.sl xs, [(id, .frz v xs)])) none
  | .frz v xs => cond (v == ver) (some (.sl xs, [])) none
  | .nest _ v _ none rows => cond (v == ver) (some (.sl (rowsD rows), [(id, .frz v (rowsD rows))])) none
  | _ => none
def toDF (id rv p : Nat) : Box → Option (D × Upd)
  | .nest _ v r none rows => cond (r == rv) (some (.sl (rows.getD p []), [(id, .frz v (rowsD rows))])) none
  | _ => none
def toD (bx : List (Nat × Box)) : AV → Option (D × Upd)
  | .c (.sc (.slice none 0 0)) => some (.sl [], [])
  | .c d => some (d, [])
  | .osl id ver => toDB id ver (lookB id bx)
  | .fsl id rv p => toDF id rv p (lookB id bx)
  | _ => none
def and2D : Option (D × Upd) → Option (List D × Upd) → Option (List D × Upd)
  | some (d, u), some (ds, u') => some (d :: ds, u ++ u')
  | _, _ => none
def toDL (bx : List (Nat × Box)) : List AV → Option (List D × Upd)
  | [] => some ([], [])
  | v :: r => and2D (toD bx v) (toDL bx r)
def one1 : Option (D × Upd) → Option (List D × Upd)
  | some (d, u) => some ([d], u)
  | none => none
def toDs (bx : List (Nat × Box)) : AV → Option (List D × Upd)
  | .ag ds => some (ds, [])
  | .c d => one1 (toD bx (.c d))
  | .osl id ver => one1 (toD bx (.osl id ver))
  | .fsl id rv p => one1 (toD bx (.fsl id rv p))
  | .agv vs => toDL bx vs
  | _ => none

/-! integers -/
def iv (v : Value) : R := .val (.c (.sc v)) []
def intBin (op : BinOp) (k : IntKind) (a b : Int) : R :=
  match op with
  | .add => iv (.int k (k.wrap (a + b)))
  | .sub => iv (.int k (k.wrap (a - b)))
  | .mul => iv (.int k (k.wrap (a * b)))
  | .quo => .ob (b ≠ 0) (iv (.int k (k.wrap (a.tdiv b))))
  | .rem => .ob (b ≠ 0) (iv (.int k (a.tmod b)))
  | .eql => iv (.bool (a == b))
  | .neq => iv (.bool (a != b))
  | .lss => iv (.bool (decide (a < b)))
  | .leq => iv (.bool (decide (a ≤ b)))
  | .gtr => iv (.bool (decide (b < a)))
  | .geq => iv (.bool (decide (b ≤ a)))
  | .and => iv (.int k (bits .and k a b))
  | .or => iv (.int k (bits .or k a b))
  | .xor => iv (.int k (bits .xor k a b))
  | .andNot => iv (.int k (bits .andNot k a b))
  | .shl => .bad
  | .shr => .bad
def shiftR (op : BinOp) (k : IntKind) (a b : Int) : R :=
  match op with
  | .shl => .ob (0 ≤ b) (iv (.int k (k.wrap (a * 2 ^ (min b.toNat k.bits)))))
  | .shr => .ob (0 ≤ b) (iv (.int k (a.fdiv (2 ^ (min b.toNat k.bits)))))
  | _ => .bad
def strBin (op : BinOp) (a b : ByteArray) : R :=
  match op with
  | .add => .ob (a.size + b.size ≤ 4611686018427387904) (iv (.string (a ++ b)))
  | .eql => iv (.bool (a.toList == b.toList))
  | .neq => iv (.bool (!(a.toList == b.toList)))
  | _ => .bad
def boolBin (op : BinOp) (a b : Bool) : R :=
  match op with
  | .eql => iv (.bool (a == b))
  | .neq => iv (.bool (!(a == b)))
  | _ => .bad

/-! structs and arrays: equal cell by cell, as the types go -/
def and2 : Option Bool → Option Bool → Option Bool
  | some a, some b => some (a && b)
  | _, _ => none
def szOf : Option TI → Nat
  | some ti => ti.size
  | none => 0
def eqI : List D → List D → Option Bool
  | [.sc (.int k a)], [.sc (.int k' b)] => cond (decide (k = k')) (some (a == b)) none
  | _, _ => none
def eqSt : List D → List D → Option Bool
  | [.sc (.string a)], [.sc (.string b)] => some (a.toList == b.toList)
  | _, _ => none
def eqB : List D → List D → Option Bool
  | [.sc (.bool a)], [.sc (.bool b)] => some (a == b)
  | _, _ => none
def eqFs (E : Env) (rec : Option TI → List D → List D → Option Bool) (xs ys : List D) : List (Nat × Nat) → Option Bool
  | [] => some true
  | p :: r => and2 (rec (E p.2) ((xs.drop p.1).take (szOf (E p.2))) ((ys.drop p.1).take (szOf (E p.2)))) (eqFs E rec xs ys r)
def eqAs (rec : List D → List D → Option Bool) (sz : Nat) : Nat → List D → List D → Option Bool
  | 0, _, _ => some true
  | k + 1, xs, ys => and2 (rec (xs.take sz) (ys.take sz)) (eqAs rec sz k (xs.drop sz) (ys.drop sz))
def eqK (E : Env) (rec : Option TI → List D → List D → Option Bool) (xs ys : List D) : TK → Option Bool
  | .int _ => eqI xs ys
  | .str => eqSt xs ys
  | .bool => eqB xs ys
  | .struct fs => eqFs E rec xs ys fs
  | .array m e => eqAs (rec (E e)) (szOf (E e)) m xs ys
  | _ => none
def eqT (E : Env) : Nat → Option TI → List D → List D → Option Bool
  | 0, _, _, _ => none
  | n + 1, some ti, xs, ys => eqK E (eqT E n) xs ys ti.kind
  | _ + 1, none, _, _ => none
def eqR : Option Bool → R
  | some t => iv (.bool t)
  | none => .bad
def neR : Option Bool → R
  | some t => iv (.bool (!t))
  | none => .bad
def aggBin (E : Env) (op : BinOp) (xs ys : List D) (ti : Option TI) : R :=
  match op with
  | .eql => eqR (eqT E 4 ti xs ys)
  | .neq => neR (eqT E 4 ti xs ys)
  | _ => .bad
def kAgg : TK → Bool
  | .struct _ => true
  | .array _ _ => true
  | _ => false
def aggT (E : Env) (op : BinOp) (xs ys : List D) : Option TI → R
  | some ti => cond (kAgg ti.kind && (xs.length == ti.size && (ys.length == ti.size))) (aggBin E op xs ys (some ti)) .bad
  | none => .bad
def boolK (op : BinOp) (a b : Bool) : TK → R
  | .bool => boolBin op a b
  | _ => .bad
def boolT (op : BinOp) (a b : Bool) : Option TI → R
  | some ti => boolK op a b ti.kind
  | none => .bad
def binI (op : BinOp) (k k' : IntKind) (a b : Int) : R :=
  match op with
  | .shl => shiftR .shl k a b
  | .shr => shiftR .shr k a b
  | op => cond (decide (k = k')) (intBin op k a b) .bad
def nilB (op : BinOp) (t : Bool) : R :=
  match op with
  | .eql => iv (.bool t)
  | .neq => iv (.bool (!t))
  | _ => .bad
def nilK (op : BinOp) (t : Bool) : TK → R
  | .slice _ => nilB op t
  | _ => .bad
def nilT (op : BinOp) (t : Bool) : Option TI → R
  | some ti => nilK op t ti.kind
  | none => .bad
def binAV (E : Env) (op : BinOp) (ti : Option TI) : AV → AV → R
  | .c (.sc (.slice none _ _)), .c (.sc (.slice none 0 0)) => nilT op true ti
  | .c (.sc (.slice (some _) _ _)), .c (.sc (.slice none 0 0)) => nilT op false ti
  | .c (.sl xs), .c (.sc (.slice none 0 0)) => .ob (xs ≠ []) (nilT op false ti)
  | .c (.sc (.int k a)), .c (.sc (.int k' b)) => binI op k k' a b
  | .c (.sc (.string a)), .c (.sc (.string b)) => strBin op a b
  | .c (.sc (.bool a)), .c (.sc (.bool b)) => boolT op a b ti
  | .ag xs, .ag ys => aggT E op xs ys ti
  | _, _ => .bad

/-! loads -/
def headR : List D → R
  | d :: _ => .val (.c d) []
  | [] => .bad
def headA : List AV → R
  | v :: _ => .val v []
  | [] => .bad
def allD : List AV → Option (List D)
  | [] => some []
  | .c d :: r => (allD r).map (d :: ·)
  | _ :: _ => none
def agR (n : Nat) : Option (List D) → R
  | some ds => cond (ds.length == n) (.val (.ag ds) []) .bad
  | none => .bad
def loadD (ti : TI) (ds : List D) : R :=
  match ti.kind with
  | .struct _ => agR ti.size (some (ds.take ti.size))
  | .array _ _ => agR ti.size (some (ds.take ti.size))
  | _ => headR ds
def cellAV : AV → Bool
  | .c _ => true
  | .osl _ _ => true
  | .bp _ _ => true
  | .op _ _ _ _ _ => true
  | .ip _ => true
  | .mp _ => true
  | .fn _ _ => true
  | .fsl _ _ _ => true
  | .fop _ _ _ _ _ _ => true
  | _ => false
/-- a cell may also hold a nil pointer that tells the block's type -/
def cellF : AV → Bool
  | .zp _ => true
  | v => cellAV v
def cellsTop : List AV → Bool
  | [] => true
  | v :: r => cond (cellAV v) (cellsTop r) false
def agcR (n : Nat) (cs : List AV) : Option (List D) → R
  | some ds => agR n (some ds)
  | none => cond (cs.length == n && cellsTop cs) (.val (.agv cs) []) .bad
def loadC (ti : TI) (cs : List AV) : R :=
  match ti.kind with
  | .struct _ => agcR ti.size (cs.take ti.size) (allD (cs.take ti.size))
  | .array _ _ => agcR ti.size (cs.take ti.size) (allD (cs.take ti.size))
  | _ => headA cs
def loadB (ti : TI) (off : Nat) : Box → R
  | .cells cs => loadC ti (cs.drop off)
  | _ => .bad
def loadO (ti : TI) (id ver i off : Nat) : Box → R
  | .arr _ v xs => cond (v == ver) (.ob (i < xs.length) (loadD ti ((xs.getD i []).drop off))) .bad
  | .nest _ v r none rows => cond (v == ver && (off == 0 && !kAgg ti.kind)) (.ob (i < rows.length) (.val (.fsl id r i) [])) .bad
  | _ => .bad
def loadF (ti : TI) (rv p j off : Nat) : Box → R
  | .nest _ _ r _ rows => cond (r == rv) (.ob (j < (rows.getD p []).length) (loadD ti (((rows.getD p []).getD j []).drop off))) .bad
  | _ => .bad
def loadP (ti : TI) (bx : List (Nat × Box)) : AV → R
  | .ip ds => loadD ti ds
  | .bp id off => loadB ti off (lookB id bx)
  | .op id ver i _ off => loadO ti id ver i off (lookB id bx)
  | .fop id rv p j _ off => loadF ti rv p j off (lookB id bx)
  | _ => .bad
def loadAV (bx : List (Nat × Box)) (p : AV) : Option TI → R
  | none => .bad
  | some ti => loadP ti bx p

/-! stores and new boxes -/
def cellsOf : AV → List AV
  | .ag ds => ds.map .c
  | .agv vs => vs
  | v => [v]
def okCells : AV → Bool
  | .ag _ => true
  | .agv vs => cellsTop vs
  | v => cellAV v
def splice (ds xs : List D) (off : Nat) : List D := ds.take off ++ (xs ++ ds.drop (off + xs.length))
def spliceA (cs xs : List AV) (off : Nat) : List AV := cs.take off ++ (xs ++ cs.drop (off + xs.length))
def storeB (id off sz : Nat) (xs : List AV) : Box → R
  | .cells cs => cond (xs.length == sz && decide (off + xs.length ≤ cs.length)) (.val .top [(id, .cells (spliceA cs xs off))]) .bad
  | _ => .bad
def notIn (id : Nat) : Upd → Bool
  | [] => true
  | p :: r => cond (id == p.1) false (notIn id r)
def storeO (id ver i off sz : Nat) (b : Box) : Option (List D × Upd) → R
  | some (ds, u) => match b with
    | .arr e v xs => cond (v == ver && (ds.length == sz && notIn id u)) (.ob (i < xs.length ∧ off + ds.length ≤ (xs.getD i []).length) (.val .top ((id, .arr e v (xs.set i (splice (xs.getD i []) ds off))) :: u))) .bad
    | _ => .bad
  | none => .bad
/-- a row that was appended to is put back -/
def dtOK (p : Nat) : Option Nat → Prop
  | none => True
  | some q => q = p
/-- the elements' type, if these are slices -/
def slE : Option TI → Option Nat
  | some ti => match ti.kind with
    | .slice e => some e
    | _ => none
  | none => none
/-- an own slice that goes into an own slice of own slices -/
def rowO (e' id ver : Nat) : Box → Option (List (List D) × (Nat × Box))
  | .arr e v xs => cond (v == ver && e == e') (some (xs, (id, .arr e (ver + 1) []))) none
  | _ => none
def rowA (e' : Nat) (bx : List (Nat × Box)) : AV → Option (List (List D) × (Nat × Box))
  | .osl id ver => rowO e' id ver (lookB id bx)
  | _ => none
def storeR (id i e v r : Nat) (rows : List (List (List D))) : Option (List (List D) × (Nat × Box)) → R
  | some (xs, p) => cond (p.1 == id) .bad (.ob (i < rows.length) (.val .top [(id, .nest e v (r + 1) none (rows.set i xs)), p]))
  | none => .bad
def storeRo (bx : List (Nat × Box)) (id i e v r : Nat) (rows : List (List (List D))) (x : AV) : Option Nat → Option Nat → R
  | some e', none => storeR id i e v r rows (rowA e' bx x)
  | _, _ => .bad
def storeN (E : Env) (bx : List (Nat × Box)) (id i e v r : Nat) (dt : Option Nat) (rows : List (List (List D))) : AV → R
  | .fsl id' rv' p => cond (id' == id && rv' == r) (.ob (i = p ∧ dtOK p dt) (.val .top [(id, .nest e v r none rows)])) .bad
  | .cfl id' rv' p n => cond (id' == id && (rv' == r && dt.isNone)) (.ob (i = p) (.val .top [(id, .nest e v (r + 1) none (rows.set p ((rows.getD p []).take n)))])) .bad
  | .osl id' ver => storeRo bx id i e v r rows (.osl id' ver) (slE (E e)) dt
  | _ => .bad
def storeX (E : Env) (bx : List (Nat × Box)) (id ver i off sz : Nat) (x : AV) : Box → R
  | .nest e v r dt rows => cond (v == ver && (off == 0 && sz == 1)) (storeN E bx id i e v r dt rows x) .bad
  | .arr e v xs => storeO id ver i off sz (.arr e v xs) (toDs bx x)
  | _ => .bad
def storeF (id rv p j off sz : Nat) (b : Box) : Option (List D × Upd) → R
  | some (ds, u) => match b with
    | .nest e v r dt rows => cond (r == rv && (ds.length == sz && notIn id u)) (.ob (j < (rows.getD p []).length ∧ off + ds.length ≤ ((rows.getD p []).getD j []).length)
        (.val .top ((id, .nest e v r dt (rows.set p ((rows.getD p []).set j (splice ((rows.getD p []).getD j []) ds off)))) :: u))) .bad
    | _ => .bad
  | none => .bad
def storeT (E : Env) (bx : List (Nat × Box)) (x : AV) (sz : Nat) : AV → R
  | .bp id off => cond (okCells x) (storeB id off sz (cellsOf x) (lookB id bx)) .bad
  | .op id ver i _ off => storeX E bx id ver i off sz x (lookB id bx)
  | .fop id rv p j _ off => storeF id rv p j off sz (lookB id bx) (toDs bx x)
  | _ => .bad
def storeAV (E : Env) (bx : List (Nat × Box)) (x p : AV) : Option TI → R
  | some ti => storeT E bx x ti.size p
  | none => .bad
def newB (d : Nat) (cs : List AV) : Box → R
  | .dead => .val (.bp d 0) [(d, .cells cs)]
  | _ => .bad
def zp70 : Value → AV
  | .pointer none => .zp 70
  | v => .c (.sc v)
def zcell (t : Nat) (v : Value) : AV := cond (t == 70) (zp70 v) (.c (.sc v))
def allocAV (t d : Nat) (b : Box) : Option TI → R
  | some ti => newB d (ti.zero.map (zcell t)) b
  | none => .bad
def boxAV (d : Nat) (b : Box) (x : AV) : R := cond (okCells x) (newB d (cellsOf x) b) .bad

/-! addresses -/
def indexB (id ver n sz : Nat) : Box → R
  | .arr _ v xs => cond (v == ver) (.ob (n < xs.length ∧ (xs.getD n []).length = sz) (.val (.op id ver n sz 0) [])) .bad
  | .frz v xs => cond (v == ver) (.ob (n < xs.length ∧ (xs.getD n []).length = sz) (.val (.ip (xs.getD n [])) [])) .bad
  | .nest _ v _ _ rows => cond (v == ver) (.ob (n < rows.length ∧ sz = 1) (.val (.op id ver n sz 0) [])) .bad
  | _ => .bad
def indexF (id rv p n sz : Nat) : Box → R
  | .nest _ _ r _ rows => cond (r == rv) (.ob (n < (rows.getD p []).length ∧ ((rows.getD p []).getD n []).length = sz) (.val (.fop id rv p n sz 0) [])) .bad
  | _ => .bad
def indexX (bx : List (Nat × Box)) (sz : Nat) (n : Int) : AV → R
  | .c (.sl xs) => .ob (0 ≤ n ∧ n.toNat < xs.length ∧ (xs.getD n.toNat []).length = sz) (.val (.ip (xs.getD n.toNat [])) [])
  | .osl id ver => .ob (0 ≤ n) (indexB id ver n.toNat sz (lookB id bx))
  | .fsl id rv p => .ob (0 ≤ n) (indexF id rv p n.toNat sz (lookB id bx))
  | _ => .bad
def indexI (bx : List (Nat × Box)) (sz : Nat) (x : AV) : AV → R
  | .c (.sc (.int _ n)) => indexX bx sz n x
  | _ => .bad
def indexE (bx : List (Nat × Box)) (x i : AV) : Option TI → R
  | some ti => indexI bx ti.size x i
  | none => .bad
def curR (ver : Nat) (r : R) : Box → R
  | .arr _ v _ => cond (v == ver) r .bad
  | _ => .bad
def indexAP (bx : List (Nat × Box)) (sz len : Nat) (n : Int) : AV → R
  | .bp id off => .ob (0 ≤ n ∧ n.toNat < len) (.val (.bp id (off + n.toNat * sz)) [])
  | .op id ver i es off => curR ver (.ob (0 ≤ n ∧ n.toNat < len) (.val (.op id ver i es (off + n.toNat * sz)) [])) (lookB id bx)
  | .ip ds => .ob (0 ≤ n ∧ n.toNat < len) (.val (.ip (ds.drop (n.toNat * sz))) [])
  | _ => .bad
def indexAI (bx : List (Nat × Box)) (sz len : Nat) (x : AV) : AV → R
  | .c (.sc (.int _ n)) => indexAP bx sz len n x
  | _ => .bad
def indexAE (bx : List (Nat × Box)) (len : Nat) (x i : AV) : Option TI → R
  | some ti => indexAI bx ti.size len x i
  | none => .bad
def indexK (E : Env) (bx : List (Nat × Box)) (x i : AV) : TK → R
  | .slice e => indexE bx x i (E e)
  | .array n e => indexAE bx n x i (E e)
  | _ => .bad
def indexAddrAV (E : Env) (bx : List (Nat × Box)) (x i : AV) : Option TI → R
  | some ti => indexK E bx x i ti.kind
  | none => .bad
def fieldP (bx : List (Nat × Box)) (off : Nat) : AV → R
  | .ip ds => .val (.ip (ds.drop off)) []
  | .bp id o => .val (.bp id (o + off)) []
  | .op id v i sz o => curR v (.val (.op id v i sz (o + off)) []) (lookB id bx)
  | _ => .bad
def fieldF (bx : List (Nat × Box)) (x : AV) : Option (Nat × Nat) → R
  | some p => fieldP bx p.1 x
  | none => .bad
def fieldK (bx : List (Nat × Box)) (x : AV) (f : Nat) : TK → R
  | .struct fs => fieldF bx x fs[f]?
  | _ => .bad
def fieldAddrAV (bx : List (Nat × Box)) (x : AV) (f : Nat) : Option TI → R
  | some ti => fieldK bx x f ti.kind
  | none => .bad
def fieldVA (off : Nat) (ti : Option TI) : AV → R
  | .ag ds => match ti with
    | some ti => loadD ti (ds.drop off)
    | none => .bad
  | .agv vs => match ti with
    | some ti => loadC ti (vs.drop off)
    | none => .bad
  | _ => .bad
def fieldVF (E : Env) (x : AV) : Option (Nat × Nat) → R
  | some p => fieldVA p.1 (E p.2) x
  | none => .bad
def fieldVK (E : Env) (x : AV) (f : Nat) : TK → R
  | .struct fs => fieldVF E x fs[f]?
  | _ => .bad
def fieldAV (E : Env) (x : AV) (f : Nat) : Option TI → R
  | some ti => fieldVK E x f ti.kind
  | none => .bad
def chkR : AV → R
  | .bp id off => .val (.bp id off) []
  | .op _ _ _ _ _ => .bad
  | .ip ds => .val (.ip ds) []
  | .fn f cs => .val (.fn f cs) []
  | _ => .bad

/-- a pointer into an own slice is not nil while the slice is there -/
def chkO (id ver i sz off : Nat) : Box → R
  | .arr _ v _ => cond (v == ver) (.val (.op id ver i sz off) []) .bad
  | _ => .bad
def chkA (bx : List (Nat × Box)) : AV → R
  | .op id ver i sz off => chkO id ver i sz off (lookB id bx)
  | v => chkR v

/-! a string's byte; a part of a slice or a string -/
def byteAt (s : ByteArray) (i : Nat) : Int := ((s.data.toList.getD i 0).toNat : Int)
def indexS (s : ByteArray) : AV → R
  | .c (.sc (.int _ n)) => .ob (0 ≤ n ∧ n.toNat < s.size) (iv (.int .u8 (byteAt s n.toNat)))
  | _ => .bad
def indexVK (x i : AV) : TK → R
  | .str => match x with
    | .c (.sc (.string s)) => indexS s i
    | _ => .bad
  | _ => .bad
def indexAV (x i : AV) : Option TI → R
  | some ti => indexVK x i ti.kind
  | none => .bad

def bound (dflt : Nat) : Option AV → Option Int
  | none => some dflt
  | some (.c (.sc (.int _ n))) => some n
  | _ => none
def AllLen (n : Nat) (ys : List (List D)) : Prop := ∀ y ∈ ys, y.length = n
def cutL (sz : Nat) (xs : List (List D)) : Option Int → Option Int → R
  | some l, some h => .ob ((0 ≤ l ∧ l ≤ h ∧ h ≤ xs.length) ∧ AllLen sz xs) (.val (.c (.sl ((xs.take h.toNat).drop l.toNat))) [])
  | _, _ => .bad
def cutS (s : ByteArray) : Option Int → Option Int → R
  | some l, some h => .ob (0 ≤ l ∧ l ≤ h ∧ h ≤ s.size) (iv (.string (s.extract l.toNat h.toNat)))
  | _, _ => .bad
/-- an own slice that is frozen is what it holds -/
def frozB (id ver : Nat) : Box → AV
  | .frz v xs => cond (v == ver) (.c (.sl xs)) (.osl id ver)
  | _ => .osl id ver
def froz (bx : List (Nat × Box)) : AV → AV
  | .osl id ver => frozB id ver (lookB id bx)
  | v => v
def cutO (id ver sz : Nat) (xs : List (List D)) : Option Int → Option Int → R
  | some l, some h => .ob ((0 ≤ l ∧ l ≤ h ∧ h ≤ xs.length) ∧ AllLen sz xs) (.val (.csl id ver l.toNat (h.toNat - l.toNat) sz) [])
  | _, _ => .bad
def cutF (id rv p n : Nat) : Option Int → Option Int → R
  | some 0, some h => .ob (0 ≤ h ∧ h ≤ n) (.val (.cfl id rv p h.toNat) [])
  | _, _ => .bad
def sliceO (lo hi : Option AV) (sz id ver : Nat) : Box → R
  | .arr _ v xs => cond (v == ver) (cutO id ver sz xs (bound 0 lo) (bound xs.length hi)) .bad
  | _ => .bad
def sliceF (lo hi : Option AV) (id rv p : Nat) : Box → R
  | .nest _ _ r _ rows => cond (r == rv) (cutF id rv p (rows.getD p []).length (bound 0 lo) (bound (rows.getD p []).length hi)) .bad
  | _ => .bad
def sliceXl (bx : List (Nat × Box)) (lo hi : Option AV) (sz : Nat) : AV → R
  | .c (.sl xs) => cutL sz xs (bound 0 lo) (bound xs.length hi)
  | .osl id ver => sliceO lo hi sz id ver (lookB id bx)
  | .fsl id rv p => sliceF lo hi id rv p (lookB id bx)
  | _ => .bad
def sliceXs (lo hi : Option AV) : AV → R
  | .c (.sc (.string s)) => cutS s (bound 0 lo) (bound s.size hi)
  | _ => .bad
def sliceE (bx : List (Nat × Box)) (lo hi : Option AV) (x : AV) : Option TI → R
  | some te => sliceXl bx lo hi te.size x
  | none => .bad
def sliceK (E : Env) (bx : List (Nat × Box)) (lo hi : Option AV) (x : AV) : TK → R
  | .slice e => sliceE bx lo hi x (E e)
  | .str => sliceXs lo hi x
  | _ => .bad
def sliceAV (E : Env) (bx : List (Nat × Box)) (lo hi : Option AV) (x : AV) : Option TI → R
  | some ti => sliceK E bx lo hi x ti.kind
  | none => .bad

/-! composites -/
def zD : Value → D
  | .slice none 0 0 => .sl []
  | v => .sc v
def placeOf (E : Env) (kd : TK) (i : Nat) : Option (Nat × Nat) :=
  match kd with
  | .struct fs => fs[i]?
  | .array _ e => some (i * szOf (E e), e)
  | _ => none
/-- what a part of a composite is: an own slice stays one -/
def partB (id ver : Nat) : Box → Option (List AV)
  | .arr _ v _ => cond (v == ver) (some [.osl id ver]) none
  | .nest _ v _ none _ => cond (v == ver) (some [.osl id ver]) none
  | .frz v xs => cond (v == ver) (some [.c (.sl xs)]) none
  | _ => none
def partC (bx : List (Nat × Box)) : AV → Option (List AV)
  | .ag ds => some (ds.map .c)
  | .c (.sc (.slice none 0 0)) => some [.c (.sl [])]
  | .c d => some [.c d]
  | .osl id ver => partB id ver (lookB id bx)
  | .bp id off => some [.bp id off]
  | .mp id => some [.mp id]
  | .ip ds => some [.ip ds]
  | .agv vs => cond (cellsTop vs) (some vs) none
  | _ => none
def partsOf (E : Env) (bx : List (Nat × Box)) (fr : List (Nat × AV)) (kd : TK) : List (Nat × Operand) → List (Option (Nat × Nat) × Option (List AV))
  | [] => []
  | (i, x) :: r => (placeOf E kd i, partC bx (ev fr x)) :: partsOf E bx fr kd r
def fillEnd (cs : List AV) : Option (List D) → R
  | some ds => .val (.ag ds) []
  | none => .val (.agv cs) []
def fillCs (E : Env) : List (Option (Nat × Nat) × Option (List AV)) → List AV → R
  | [], cs => fillEnd cs (allD cs)
  | (some p, some xs) :: r, cs => cond (xs.length == szOf (E p.2) && decide (p.1 + xs.length ≤ cs.length)) (fillCs E r (spliceA cs xs p.1)) .bad
  | _ :: _, _ => .bad
def buildAV (E : Env) (bx : List (Nat × Box)) (fr : List (Nat × AV)) (ps : List (Nat × Operand)) : Option TI → R
  | some ti => cond (kAgg ti.kind) (fillCs E (partsOf E bx fr ti.kind ps) (ti.zero.map fun v => .c (.sc v))) .bad
  | none => .bad
def rowsOf (bx : List (Nat × Box)) (fr : List (Nat × AV)) : List (Nat × Operand) → List (Nat × Option (List D × Upd))
  | [] => []
  | (i, x) :: r => (i, toDs bx (ev fr x)) :: rowsOf bx fr r
def fillRows (d e sz n : Nat) : List (Nat × Option (List D × Upd)) → Nat → List (List D) → Upd → R
  | [], k, rows, u => cond (k == n) (.val (.osl d 0) ((d, .arr e 0 rows) :: u)) .bad
  | (i, some (xs, u')) :: r, k, rows, u => cond (i == k && (xs.length == sz)) (fillRows d e sz n r (k + 1) (rows ++ [xs]) (u' ++ u)) .bad
  | _ :: _, _, _, _ => .bad
def nestsOf (e' : Nat) (bx : List (Nat × Box)) (fr : List (Nat × AV)) : List (Nat × Operand) → List (Nat × Option (List (List D) × (Nat × Box)))
  | [] => []
  | (i, x) :: r => (i, rowA e' bx (ev fr x)) :: nestsOf e' bx fr r
def fillNest (d e n : Nat) : List (Nat × Option (List (List D) × (Nat × Box))) → Nat → List (List (List D)) → Upd → R
  | [], k, rows, u => cond (k == n) (.val (.osl d 0) ((d, .nest e 0 0 none rows) :: u)) .bad
  | (i, some (xs, p)) :: r, k, rows, u => cond (i == k && notIn p.1 u) (fillNest d e n r (k + 1) (rows ++ [xs]) (u ++ [p])) .bad
  | _ :: _, _, _, _ => .bad
def allOwn : List (Nat × Option (List (List D) × (Nat × Box))) → Bool
  | [] => true
  | (_, some _) :: r => allOwn r
  | (_, none) :: _ => false
def bslN (d e n sz : Nat) (bx : List (Nat × Box)) (fr : List (Nat × AV)) (ps : List (Nat × Operand)) : TK → R
  | .slice e' => cond (sz == 1 && allOwn (nestsOf e' bx fr ps)) (fillNest d e n (nestsOf e' bx fr ps) 0 [] []) (fillRows d e sz n (rowsOf bx fr ps) 0 [] [])
  | _ => .bad
def bslO (bx : List (Nat × Box)) (fr : List (Nat × AV)) (d e n : Nat) (ps : List (Nat × Operand)) (te : TI) : Bool → R
  | false => fillRows d e te.size n (rowsOf bx fr ps) 0 [] []
  | true => bslN d e n te.size bx fr ps te.kind
def bslE (bx : List (Nat × Box)) (fr : List (Nat × AV)) (d e n : Nat) (ps : List (Nat × Operand)) (own : Bool) (b : Box) : Option TI → R
  | some te => match b with
    | .dead => cond (decide (n * te.size ≤ 16777216)) (bslO bx fr d e n ps te own) .bad
    | _ => .bad
  | none => .bad
def bslK (E : Env) (bx : List (Nat × Box)) (fr : List (Nat × AV)) (d n : Nat) (ps : List (Nat × Operand)) (own : Bool) : TK → R
  | .slice e => bslE bx fr d e n ps own (lookB d bx) (E e)
  | _ => .bad
def bslAV (E : Env) (bx : List (Nat × Box)) (fr : List (Nat × AV)) (d n : Nat) (ps : List (Nat × Operand)) : Option TI → R
  | some ti => bslK E bx fr d n ps ti.own ti.kind
  | none => .bad
def isSlK : TK → Bool
  | .slice _ => true
  | _ => false
def isNilZ : List Value → Bool
  | [.slice none 0 0] => true
  | _ => false
def mkB (d e n : Nat) (te : TI) : Bool → R
  | false => .val (.osl d 0) [(d, .arr e 0 (List.replicate n (te.zero.map zD)))]
  | true => cond (isSlK te.kind && isNilZ te.zero) (.val (.osl d 0) [(d, .nest e 0 0 none (List.replicate n []))]) .bad
def mkE (d e : Nat) (b : Box) (l c : AV) (own : Bool) : Option TI → R
  | some te => match b with
    | .dead => match l, c with
      | .c (.sc (.int _ n)), .c (.sc (.int _ m)) => .ob (n = m ∧ 0 ≤ n ∧ n.toNat * te.bytes ≤ 140737488355328) (mkB d e n.toNat te own)
      | _, _ => .bad
    | _ => .bad
  | none => .bad
def mkK (E : Env) (bx : List (Nat × Box)) (d : Nat) (l c : AV) (own : Bool) : TK → R
  | .slice e => mkE d e (lookB d bx) l c own (E e)
  | _ => .bad
def mkAV (E : Env) (bx : List (Nat × Box)) (d : Nat) (l c : AV) : Option TI → R
  | some ti => mkK E bx d l c ti.own ti.kind
  | none => .bad

/-! conversions, not, parts of a tuple -/
def convK (x : AV) : TK → R
  | .int k => match x with
    | .c (.sc (.int _ n)) => iv (.int k (k.wrap n))
    | _ => .bad
  | .str => match x with
    | .c (.sc (.string s)) => iv (.string s)
    | _ => .bad
  | _ => .bad
def convAV (x : AV) (src : Option TI) : Option TI → R
  | some ti => match src with
    | some _ => convK x ti.kind
    | none => .bad
  | none => .bad
def pickR (a b : AV) : AV → R
  | .c (.sc (.bool t)) => .br t (.val a []) (.val b [])
  | _ => .bad
def notR : AV → R
  | .c (.sc (.bool t)) => iv (.bool (!t))
  | _ => .bad
def extR (i : Nat) : AV → R
  | .tp vs => headA (vs.drop i)
  | _ => .bad

/-! maps -/
def keyEq : Value → Value → Option Bool
  | .int _ a, .int _ b => some (a == b)
  | .string a, .string b => some (a.data.toList == b.data.toList)
  | _, _ => none
def keyOK (kt : TK) : Value → Bool
  | .int k _ => match kt with | .int k' => decide (k = k') | _ => false
  | .string _ => match kt with | .str => true | _ => false
  | _ => false
def mfind (k : Value) : List (Value × Value) → Option Value
  | [] => none
  | p :: r => match keyEq k p.1 with
    | some true => some p.2
    | _ => mfind k r
def mput (k v : Value) : List (Value × Value) → List (Value × Value)
  | [] => [(k, v)]
  | p :: r => match keyEq k p.1 with
    | some true => (k, v) :: r
    | _ => p :: mput k v r
def kindOf : Option TI → TK
  | some ti => ti.kind
  | none => .other
def mkMapK (d kt et : Nat) : Box → R
  | .dead => .val (.mp d) [(d, .map kt et [])]
  | _ => .bad
def mkMapAV (bx : List (Nat × Box)) (d : Nat) : Option TI → R
  | some ti => match ti.kind with
    | .map k e => mkMapK d k e (lookB d bx)
    | _ => .bad
  | none => .bad
def lookOpt (commaOk : Bool) (z : Value) : Option Value → R
  | some v => cond commaOk (.val (.tp [.c (.sc v), .c (.sc (.bool true))]) []) (.val (.c (.sc v)) [])
  | none => cond commaOk (.val (.tp [.c (zD z), .c (.sc (.bool false))]) []) (.val (.c (zD z)) [])
def lookZ (commaOk : Bool) (r : Option Value) : Option TI → R
  | some te => match te.zero with
    | [z] => cond (kAgg te.kind) .bad (lookOpt commaOk z r)
    | _ => .bad
  | none => .bad
def lookBx (E : Env) (commaOk : Bool) (kt et : Nat) (k : Value) : Box → R
  | .map kt' et' es => cond (kt == kt' && (et == et' && keyOK (kindOf (E kt)) k)) (lookZ commaOk (mfind k es) (E et)) .bad
  | _ => .bad
def lookX (E : Env) (bx : List (Nat × Box)) (commaOk : Bool) (kt et : Nat) (k : AV) : AV → R
  | .mp id => match k with
    | .c (.sc k) => lookBx E commaOk kt et k (lookB id bx)
    | _ => .bad
  | _ => .bad
def lookAV (E : Env) (bx : List (Nat × Box)) (x k : AV) (commaOk : Bool) : Option TI → R
  | some ti => match ti.kind with
    | .map kt et => lookX E bx commaOk kt et k x
    | _ => .bad
  | none => .bad
def updBx (E : Env) (id kt et : Nat) (k v : Value) : Box → R
  | .map kt' et' es => cond (kt == kt' && (et == et' && keyOK (kindOf (E kt)) k)) (.val .top [(id, .map kt et (mput k v es))]) .bad
  | _ => .bad
def updX (E : Env) (bx : List (Nat × Box)) (kt et : Nat) (k v : AV) : AV → R
  | .mp id => match k, v with
    | .c (.sc k), .c (.sc v) => updBx E id kt et k v (lookB id bx)
    | _, _ => .bad
  | _ => .bad
def updAV (E : Env) (bx : List (Nat × Box)) (x k v : AV) : Option TI → R
  | some ti => match ti.kind with
    | .map kt et => updX E bx kt et k v x
    | _ => .bad
  | none => .bad
def lenMB : Box → R
  | .map _ _ es => iv (.int .i64 es.length)
  | _ => .bad
def lenM (bx : List (Nat × Box)) : AV → R
  | .mp id => lenMB (lookB id bx)
  | _ => .bad

/-! builtins -/
def lenB (ver : Nat) : Box → R
  | .arr _ v xs => cond (v == ver) (iv (.int .i64 xs.length)) .bad
  | .frz v xs => cond (v == ver) (iv (.int .i64 xs.length)) .bad
  | .nest _ v _ _ rows => cond (v == ver) (iv (.int .i64 rows.length)) .bad
  | _ => .bad
def lenF (rv p : Nat) : Box → R
  | .nest _ _ r _ rows => cond (r == rv) (iv (.int .i64 (rows.getD p []).length)) .bad
  | _ => .bad
def lenSl (bx : List (Nat × Box)) : AV → R
  | .c (.sl xs) => iv (.int .i64 xs.length)
  | .c (.sc (.slice none 0 0)) => iv (.int .i64 0)
  | .osl id ver => lenB ver (lookB id bx)
  | .fsl id rv p => lenF rv p (lookB id bx)
  | _ => .bad
def lenSt : AV → R
  | .c (.sc (.string s)) => iv (.int .i64 s.size)
  | _ => .bad
def lenK (bx : List (Nat × Box)) (x : AV) : TK → R
  | .slice _ => lenSl bx x
  | .str => lenSt x
  | .map _ _ => lenM bx x
  | _ => .bad
def lenT (bx : List (Nat × Box)) (x : AV) : Option TI → R
  | some ti => lenK bx x ti.kind
  | none => .bad
def srcB (ver : Nat) : Box → Option (List (List D))
  | .arr _ v xs => cond (v == ver) (some xs) none
  | .frz v xs => cond (v == ver) (some xs) none
  | _ => none
def srcD (bx : List (Nat × Box)) : AV → Option (List (List D))
  | .c (.sl ys) => some ys
  | .c (.sc (.slice _ 0 _)) => some []
  | .osl id ver => srcB ver (lookB id bx)
  | _ => none
/-- bytes to a string -/
def u8L : List (List D) → Option (List Int)
  | [] => some []
  | [.sc (.int .u8 n)] :: r => (u8L r).map (n :: ·)
  | _ => none
def strOf (ns : List Int) : ByteArray := ns.foldl (fun r n => r.push (UInt8.ofNat n.toNat)) ByteArray.empty
def strR : Option (List Int) → R
  | some ns => iv (.string (strOf ns))
  | none => .bad
def bytesO : Option (List (List D)) → R
  | some ys => strR (u8L ys)
  | none => .bad
def u8K (r : R) : TK → R
  | .int .u8 => r
  | _ => .bad
def u8T (r : R) : Option TI → R
  | some te => u8K r te.kind
  | none => .bad
def convSK (E : Env) (bx : List (Nat × Box)) (x : AV) (e : Nat) : TK → R
  | .str => u8T (bytesO (srcD bx x)) (E e)
  | _ => .bad
def convS (E : Env) (bx : List (Nat × Box)) (x : AV) (e : Nat) : Option TI → R
  | some ti => convSK E bx x e ti.kind
  | none => .bad
def convY (E : Env) (bx : List (Nat × Box)) (x : AV) (si : TI) (dst : Option TI) : TK → R
  | .slice e => convS E bx x e dst
  | _ => convAV x (some si) dst
def convX (E : Env) (bx : List (Nat × Box)) (x : AV) (dst : Option TI) : Option TI → R
  | some si => convY E bx x si dst si.kind
  | none => .bad

def appR (sz nb id e ver : Nat) (xs : List (List D)) : Option (List (List D)) → R
  | some ys => .ob ((xs.length + ys.length) * nb ≤ 140737488355328 ∧ AllLen sz ys) (.val (.osl id (ver + 1)) [(id, .arr e (ver + 1) (xs ++ ys))])
  | none => .bad
def appN (sz nb d e : Nat) (src : Option (List (List D))) : Box → R
  | .dead => appR sz nb d e 0 [] src
  | _ => .bad
def appO (sz nb id e ver : Nat) (src : Option (List (List D))) : Box → R
  | .arr e' v xs => cond (v == ver && (e' == e)) (appR sz nb id e v xs src) .bad
  | _ => .bad
def appFR (sz nb id e v r p : Nat) (rows : List (List (List D))) : Option (List (List D)) → R
  | some ys => .ob (((rows.getD p []).length + ys.length) * nb ≤ 140737488355328 ∧ AllLen sz ys) (.val (.fsl id (r + 1) p) [(id, .nest e v (r + 1) (some p) (rows.set p (rows.getD p [] ++ ys)))])
  | none => .bad
def appF (sz nb id rv p t : Nat) (src : Option (List (List D))) : Box → R
  | .nest e v r none rows => cond (r == rv && e == t) (appFR sz nb id e v r p rows src) .bad
  | _ => .bad
def appX (bx : List (Nat × Box)) (sz nb d e t : Nat) (src : Option (List (List D))) : AV → R
  | .c (.sc (.slice none 0 0)) => appN sz nb d e src (lookB d bx)
  | .osl id ver => appO sz nb id e ver src (lookB id bx)
  | .fsl id rv p => appF sz nb id rv p t src (lookB id bx)
  | _ => .bad
/-- an own slice of own slices is put behind another one, or is the first -/
def nestB (ver : Nat) (id : Nat) : Box → Option (Nat × (Nat × (Nat × (Nat × List (List (List D))))))
  | .nest e v r none rows => cond (v == ver) (some (id, (e, (v, (r, rows))))) none
  | _ => none
def nestA (bx : List (Nat × Box)) : AV → Option (Nat × (Nat × (Nat × (Nat × List (List (List D))))))
  | .osl id ver => nestB ver id (lookB id bx)
  | _ => none
def appNN (nb d e ny vy ry : Nat) (ys : List (List (List D))) : Box → R
  | .dead => cond (d == ny) .bad (.ob (ys.length * nb ≤ 140737488355328) (.val (.osl d 0) [(d, .nest e 0 0 none ys), (ny, .nest e (vy + 1) (ry + 1) none [])]))
  | _ => .bad
def appNO (nb id e ver ny vy ry : Nat) (ys : List (List (List D))) : Box → R
  | .nest e' v r none rows => cond (v == ver && (e' == e && !(id == ny))) (.ob ((rows.length + ys.length) * nb ≤ 140737488355328)
      (.val (.osl id (ver + 1)) [(id, .nest e (ver + 1) (r + 1) none (rows ++ ys)), (ny, .nest e (vy + 1) (ry + 1) none [])])) .bad
  | _ => .bad
def appNX (bx : List (Nat × Box)) (nb d e ny vy ry : Nat) (ys : List (List (List D))) : AV → R
  | .c (.sc (.slice none 0 0)) => appNN nb d e ny vy ry ys (lookB d bx)
  | .osl id ver => appNO nb id e ver ny vy ry ys (lookB id bx)
  | _ => .bad
def appS (bx : List (Nat × Box)) (te : TI) (d e t : Nat) (x y : AV) : Option (Nat × (Nat × (Nat × (Nat × List (List (List D)))))) → R
  | some (ny, (ey, (vy, (ry, ys)))) => cond (ey == e) (appNX bx te.bytes d e ny vy ry ys x) .bad
  | none => appX bx te.size te.bytes d e t (srcD bx y) x
def appE (bx : List (Nat × Box)) (d e t : Nat) (x y : AV) : Option TI → R
  | some te => appS bx te d e t x y (nestA bx y)
  | none => .bad
def appK (E : Env) (bx : List (Nat × Box)) (d t : Nat) (x y : AV) : TK → R
  | .slice e => appE bx d e t x y (E e)
  | _ => .bad
def appAV (E : Env) (bx : List (Nat × Box)) (d t : Nat) (x y : AV) : Option TI → R
  | some ti => appK E bx d t x y ti.kind
  | none => .bad
/-! a string's bytes are put behind an own slice -/
def strD (s : ByteArray) : List (List D) := s.data.toList.map fun b => [.sc (.int .u8 b.toNat)]
def appSX (bx : List (Nat × Box)) (d e : Nat) (src : List (List D)) : AV → R
  | .c (.sc (.slice none 0 0)) => appN 1 1 d e (some src) (lookB d bx)
  | .osl id ver => appO 1 1 id e ver (some src) (lookB id bx)
  | _ => .bad
def appSY (bx : List (Nat × Box)) (d e : Nat) (x : AV) : AV → R
  | .c (.sc (.string s)) => appSX bx d e (strD s) x
  | _ => .bad
def byteT : Option TI → Bool
  | some ⟨1, 1, [.int .u8 0], .int .u8, _⟩ => true
  | _ => false
def strT : Option TI → Bool
  | some ⟨_, _, _, .str, _⟩ => true
  | _ => false
def appStr (E : Env) (bx : List (Nat × Box)) (d : Nat) (x y : AV) : Option TI → Option TI → R
  | some ⟨_, _, _, .slice e, _⟩, t' => cond (byteT (E e) && strT t') (appSY bx d e x y) .bad
  | _, _ => .bad
/-! copy into an own slice -/
def srcC (ver lo n : Nat) : Box → Option (List (List D))
  | .arr _ v xs => cond (v == ver) (some ((xs.drop lo).take n)) none
  | _ => none
def srcE (bx : List (Nat × Box)) : AV → Option (List (List D))
  | .csl id ver lo n _ => srcC ver lo n (lookB id bx)
  | v => srcD bx v
/-- xs with ys laid over it from lo on, as far as n goes -/
def laid (xs ys : List (List D)) (lo n : Nat) : List (List D) := xs.take lo ++ (ys.take n ++ xs.drop (lo + min n ys.length))
def cpR (id e ver lo n : Nat) (xs : List (List D)) : Option (List (List D)) → R
  | some ys => .ob (AllLen 1 ys ∧ lo + n ≤ xs.length) (.val (.c (.sc (.int .i64 ((min n ys.length : Nat) : Int)))) [(id, .arr e ver (laid xs ys lo n))])
  | none => .bad
def cpB (t : Nat) (src : Option (List (List D))) (id ver lo : Nat) (n : Option Nat) : Box → R
  | .arr e v xs => cond (v == ver && e == t) (cpR id e ver lo (n.getD xs.length) xs src) .bad
  | _ => .bad
def cpX (bx : List (Nat × Box)) (t : Nat) (src : Option (List (List D))) : AV → R
  | .osl id ver => cpB t src id ver 0 none (lookB id bx)
  | .csl id ver lo n _ => cpB t src id ver lo (some n) (lookB id bx)
  | _ => .bad
def cpE (bx : List (Nat × Box)) (e : Nat) (x y : AV) : Option TI → R
  | some te => cond (te.size == 1) (cpX bx e (srcE bx y) x) .bad
  | none => .bad
def cpK (E : Env) (bx : List (Nat × Box)) (x y : AV) : TK → R
  | .slice e => cpE bx e x y (E e)
  | _ => .bad
def cpAV (E : Env) (bx : List (Nat × Box)) (x y : AV) : Option TI → R
  | some ti => cpK E bx x y ti.kind
  | none => .bad
def minR : AV → AV → R
  | .c (.sc (.int k a)), .c (.sc (.int _ b)) => iv (.int k (cond (decide (b < a)) b a))
  | _, _ => .bad
def maxR : AV → AV → R
  | .c (.sc (.int k a)), .c (.sc (.int _ b)) => iv (.int k (cond (decide (a < b)) b a))
  | _, _ => .bad
def bltR (E : Env) (bx : List (Nat × Box)) (d : Nat) (b : Builtin) (args : List AV) (ts : List Nat) : R :=
  match b, args, ts with
  | .len, [x], [t] => lenT bx x (E t)
  | .append, [x, y], [t, t'] => cond (t == t') (appAV E bx d t x y (E t)) (appStr E bx d x y (E t) (E t'))
  | .copy, [x, y], [t, t'] => cond (t == t') (cpAV E bx x y (E t)) .bad
  | .min, [x, y], _ => minR x y
  | .max, [x, y], _ => maxR x y
  | _, _, _ => .bad
/-! a call: the arguments as they are passed, and what is frozen if the result may hold on to it -/
def normA (bx : List (Nat × Box)) : AV → Option (AV × Upd)
  | .c (.sc (.slice none 0 0)) => some (.c (.sl []), [])
  | .c d => some (.c d, [])
  | .ag ds => some (.ag ds, [])
  | .ip ds => some (.ip ds, [])
  | .osl id ver => (toDB id ver (lookB id bx)).map fun p => (.c p.1, p.2)
  | .fsl id rv p => (toDF id rv p (lookB id bx)).map fun p => (.c p.1, p.2)
  | .agv vs => (toDL bx vs).map fun p => (.ag p.1, p.2)
  | _ => none
def and3 : Option (AV × Upd) → Option (List AV × Upd) → Option (List AV × Upd)
  | some (v, u), some (l, u') => some (v :: l, u ++ u')
  | _, _ => none
def normL (bx : List (Nat × Box)) : List AV → Option (List AV × Upd)
  | [] => some ([], [])
  | v :: r => and3 (normA bx v) (normL bx r)
def callN (f : Nat) (raw : List AV) : Option (List AV × Upd) → R
  | some (l, u) => .call f l u raw
  | none => .callM f raw
def callR (bx : List (Nat × Box)) (args : List AV) : AV → R
  | .fn f [] => callN f args (normL bx args)
  | .fn f (c :: cs) => .callM f (args ++ (c :: cs))
  | .c (.sc (.func (.yield l) fst caps)) => .yld l fst caps args
  | _ => .bad
def mkFn (caps : List AV) (n : Nat) : Fn → R
  | .func f => cond (n == 0) (.val (.fn f caps) []) .bad
  | _ => .bad
def resA (d : Nat) (b : Box) : AV → Option (AV × Upd)
  | .fr e xs => match b with
    | .dead => some (.osl d 0, [(d, .arr e 0 xs)])
    | _ => none
  | .c x => some (.c x, [])
  | .ag ds => some (.ag ds, [])
  | _ => none
def resL (d : Nat) (b : Box) : List AV → Option (List AV × Upd)
  | [] => some ([], [])
  | v :: r => match v with
    | .fr e xs => match b with
      | .dead => (resL d (.arr e 0 xs) r).map fun p => (.osl d 0 :: p.1, (d, .arr e 0 xs) :: p.2)
      | _ => none
    | .c x => (resL d b r).map fun p => (.c x :: p.1, p.2)
    | .ag ds => (resL d b r).map fun p => (.ag ds :: p.1, p.2)
    | _ => none
def resR (d : Nat) (b : Box) : AV → Option (AV × Upd)
  | .tp vs => (resL d b vs).map fun p => (.tp p.1, p.2)
  | v => resA d b v
def scD : D → Bool
  | .sc _ => true
  | .sl _ => false
def isSc : AV → Bool
  | .c d => scD d
  | .ag ds => ds.all scD
  | .tp vs => vs.all fun | .c d => scD d | .ag ds => ds.all scD | _ => false
  | _ => false

/-! one operation -/
def opR (E : Env) (s : S) (d : Nat) (o : Op) : R :=
  match o with
  | .move x => .val (ev s.fr x) []
  | .assign x => .val (ev s.fr x) []
  | .pick c a b => pickR (ev s.fr a) (ev s.fr b) (ev s.fr c)
  | .alloc t => allocAV t d (lookB d s.bx) (E t)
  | .box _ x => boxAV d (lookB d s.bx) (ev s.fr x)
  | .build t ps => buildAV E s.bx s.fr ps.toList (E t)
  | .buildSlice t n ps => bslAV E s.bx s.fr d n ps.toList (E t)
  | .load t p => loadAV s.bx (ev s.fr p) (E t)
  | .store t p x => storeAV E s.bx (ev s.fr x) (ev s.fr p) (E t)
  | .nilCheck x => chkA s.bx (ev s.fr x)
  | .indexAddr t x i => indexAddrAV E s.bx (ev s.fr x) (ev s.fr i) (E t)
  | .index t x i => indexAV (ev s.fr x) (ev s.fr i) (E t)
  | .fieldAddr t x f => fieldAddrAV s.bx (ev s.fr x) f (E t)
  | .field t x f => fieldAV E (ev s.fr x) f (E t)
  | .slice t x lo hi mx => cond mx.isNone (sliceAV E s.bx (lo.map (ev s.fr)) (hi.map (ev s.fr)) (froz s.bx (ev s.fr x)) (E t)) .bad
  | .binOp op t x y _ => binAV E op (E t) (ev s.fr x) (ev s.fr y)
  | .unOp op _ x => match op with | .not => notR (ev s.fr x) | _ => .bad
  | .convert t t' x => convX E s.bx (ev s.fr x) (E t') (E t)
  | .makeSlice t l c => mkAV E s.bx d (ev s.fr l) (ev s.fr c) (E t)
  | .extract x i => extR i (ev s.fr x)
  | .makeMap t none => mkMapAV s.bx d (E t)
  | .lookup t x k c => lookAV E s.bx (ev s.fr x) (ev s.fr k) c (E t)
  | .mapUpdate t x k v => updAV E s.bx (ev s.fr x) (ev s.fr k) (ev s.fr v) (E t)
  | .makeFunc f fst caps => mkFn (caps.toList.map (ev s.fr)) fst.size f
  | .call ⟨f, args, ts⟩ => match f with
    | .builtin b => bltR E s.bx d b (args.toList.map (ev s.fr)) ts.toList
    | .value f => callR s.bx (args.toList.map (ev s.fr)) (ev s.fr f)
    | _ => .bad
  | _ => .bad

def putU (s : S) (d : Option Nat) (v : AV) (u : Upd) : S :=
  match d with
  | some d => ⟨(d, v) :: s.fr, u ++ s.bx⟩
  | none => ⟨s.fr, u ++ s.bx⟩

/-! which boxes an abstract value names -/
mutual
def refs : AV → List Nat
  | .osl id _ => [id]
  | .bp id _ => [id]
  | .op id _ _ _ _ => [id]
  | .mp id => [id]
  | .tp vs => refsL vs
  | .fn _ cs => refsL cs
  | .agv vs => refsL vs
  | .fsl id _ _ => [id]
  | .fop id _ _ _ _ _ => [id]
  | .csl id _ _ _ _ => [id]
  | .cfl id _ _ _ => [id]
  | _ => []
def refsL : List AV → List Nat
  | [] => []
  | v :: r => refs v ++ refsL r
end

end Go.Vx
end

section
set_option linter.unusedVariables false
set_option linter.unusedSimpArgs false
namespace Go.Vx
open Go Go.RowKit

/-- a cell's value is by value 'd', read without the blocks of M -/
inductive Rp (w : World) (M : Nat → Prop) : Value → D → Prop
  | sc (v : Value) (h : v.oneCell' = true) : Rp w M v (.sc v)
  | sl (A : Option Addr) (c size : Nat) (xs : List (List D)) (cell : Nat → Value) (hc : xs.length ≤ c) (hm : c ≤ maxLen) (h0 : 0 < size) (hsz : ∀ x ∈ xs, x.length = size)
      (hA : xs ≠ [] → ∃ ad : Addr, A = some ad ∧ ¬ M ad.block ∧ ∀ j, j < xs.length * size → w.cell? (ad.add j) = some (cell j))
      (hr : ∀ i x j d, xs[i]? = some x → x[j]? = some d → Rp w M (cell (i * size + j)) d) : Rp w M (.slice A xs.length c) (.sl xs)

theorem block_of_add (a : Addr) (n : Nat) : (a.add n).block = a.block := by unfold Addr.add; split <;> rfl
theorem add_of_add (a : Addr) (i j : Nat) : (a.add i).add j = a.add (i + j) := by
  unfold Addr.add
  by_cases hi : i = 0 <;> by_cases hj : j = 0 <;> simp [hi, hj, Nat.add_assoc]

/-- nothing that is read has turned -/
def Kept (w : World) (M : Nat → Prop) (w' : World) (M' : Nat → Prop) : Prop := ∀ k, k < w.heap.size → ¬ M k → w'.heap[k]? = w.heap[k]? ∧ ¬ M' k

theorem Kept.refl (w : World) (M : Nat → Prop) : Kept w M w M := fun _ _ h => ⟨rfl, h⟩

theorem Kept.cell {w w' : World} {M M' : Nat → Prop} (h : Kept w M w' M') {a : Addr} {v : Value} (hm : ¬ M a.block) (hc : w.cell? a = some v) : w'.cell? a = some v :=
  (World.cell?_of_block (h a.block (World.block_lt_of_cell? w a hc) hm).1).trans hc

theorem Rp.keep {w w' : World} {M M' : Nat → Prop} {v : Value} {d : D} (h : Rp w M v d) (hk : Kept w M w' M') : Rp w' M' v d := by
  induction h with
  | sc v h => exact .sc v h
  | sl A c size xs cell hc hm h0 hsz hA hr ih =>
    refine .sl A c size xs cell hc hm h0 hsz (fun hne => ?_) (fun i x j d hx hd => ih i x j d hx hd)
    obtain ⟨ad, e, hM, hcell⟩ := hA hne
    have hpos : 0 < xs.length * size := Nat.mul_pos (List.length_pos_iff.2 hne) h0
    have hb := World.block_lt_of_cell? w _ (hcell 0 hpos)
    rw [block_of_add] at hb
    exact ⟨ad, e, (hk _ hb hM).2, fun j hj => hk.cell (by rw [block_of_add]; exact hM) (hcell j hj)⟩

theorem Rp.one {w : World} {M : Nat → Prop} {v : Value} {d : D} (h : Rp w M v d) : v.oneCell' = true := by
  cases h with
  | sc v h => exact h
  | sl => rfl

/-- what may be called fresh: empty, nil -/
theorem Rp.nil (w : World) (M : Nat → Prop) : Rp w M (.slice none 0 0) (.sl []) :=
  .sl none 0 1 [] (fun _ => undef) (by simp) (by simp [maxLen]) (by omega) (by simp) (by simp) (by simp)

def blk : Value → Option Nat
  | .pointer (some a) => some a.block
  | .slice (some a) _ _ => some a.block
  | .map (some g) => some g
  | _ => none

/-- the blocks of a box: an owned slice of owned slices has the outer one and those of its rows -/
def Blk : Value → Nat → Prop
  | .tuple vs, k => ∃ j : Nat, blk (vs.getD j undef) = some k
  | v, k => blk v = some k
def outerV : Value → Value
  | .tuple vs => vs.getD 0 undef
  | v => v
def innerV (p : Nat) : Value → Value
  | .tuple vs => vs.getD (p + 1) undef
  | _ => undef
theorem Blk.of {v : Value} {k : Nat} (h : blk v = some k) : Blk v k := by
  cases v <;> first | exact h | cases h

def live : Box → Bool
  | .cells _ => true
  | .arr _ _ _ => true
  | .map _ _ _ => true
  | .nest _ _ _ _ _ => true
  | _ => false

def OslOK (b : Box) (β : Value) (ver : Nat) (v : Value) : Prop :=
  match b with
  | .arr _ v' _ => ver ≤ v' ∧ (ver = v' → v = β)
  | .frz v' _ => ver ≤ v' ∧ (ver = v' → v = outerV β)
  | .nest _ v' _ _ _ => ver ≤ v' ∧ (ver = v' → v = outerV β)
  | _ => False
def SzOK (xs : List (List D)) (sz : Nat) : Prop := ∀ x ∈ xs, x.length = sz
def OpOK (b : Box) (β : Value) (ver i sz off : Nat) (v : Value) : Prop :=
  match b with
  | .arr _ v' xs => ver ≤ v' ∧ (ver = v' → SzOK xs sz ∧ ∃ g n c, β = .slice (some ⟨g, 0, none⟩) n c ∧ v = .pointer (some ⟨g, i * sz + off, none⟩))
  | .frz v' _ => ver ≤ v'
  | .nest _ v' _ _ _ => ver ≤ v' ∧ (ver = v' → ∃ g n c, outerV β = .slice (some ⟨g, 0, none⟩) n c ∧ v = .pointer (some ⟨g, i * 1 + off, none⟩))
  | _ => False
def FslOK (b : Box) (β : Value) (rv p : Nat) (v : Value) : Prop :=
  match b with
  | .nest _ _ r _ rows => rv ≤ r ∧ (rv = r → p < rows.length ∧ v = innerV p β)
  | .frz _ _ => True
  | _ => False
def FopOK (b : Box) (β : Value) (rv p j sz off : Nat) (v : Value) : Prop :=
  match b with
  | .nest _ _ r _ rows => rv ≤ r ∧ (rv = r → p < rows.length ∧ SzOK (rows.getD p []) sz ∧ ∃ g n c, innerV p β = .slice (some ⟨g, 0, none⟩) n c ∧ v = .pointer (some ⟨g, j * sz + off, none⟩))
  | .frz _ _ => True
  | _ => False

/-- a part of an own slice -/
def CslOK (b : Box) (β : Value) (ver lo n sz : Nat) (v : Value) : Prop :=
  match b with
  | .arr _ v' xs => ver ≤ v' ∧ (ver = v' → SzOK xs sz ∧ ∃ B m c A c', β = .slice B m c ∧ lo + n ≤ m ∧ v = .slice A n c' ∧ (0 < n → ∃ g, B = some ⟨g, 0, none⟩ ∧ A = some ⟨g, lo * sz, none⟩))
  | .frz v' _ => ver ≤ v'
  | _ => False
/-- the first elements of a row -/
def CflOK (b : Box) (β : Value) (rv p n : Nat) (v : Value) : Prop :=
  match b with
  | .nest _ _ r _ rows => rv ≤ r ∧ (rv = r → p < rows.length ∧ ∃ B m c, innerV p β = .slice B m c ∧ n ≤ m ∧ v = .slice B n c)
  | .frz _ _ => True
  | _ => False

/-- a value is abstractly 'av' -/
inductive RV (w : World) (M : Nat → Prop) (β : Nat → Value) (lk : Nat → Box) : Value → AV → Prop
  | top (v : Value) : RV w M β lk v .top
  | c (v : Value) (d : D) (h : Rp w M v d) : RV w M β lk v (.c d)
  | ag (cs : Array Value) (ds : List D) (hs : cs.size = ds.length) (h : ∀ j d, ds[j]? = some d → Rp w M (cs.getD j undef) d) : RV w M β lk (.agg cs) (.ag ds)
  | tp (vs : Array Value) (avs : List AV) (hs : vs.size = avs.length) (h : ∀ j av, avs[j]? = some av → RV w M β lk (vs.getD j undef) av) : RV w M β lk (.tuple vs) (.tp avs)
  | osl (id ver : Nat) (v : Value) (h1 : v.oneCell' = true) (h : OslOK (lk id) (β id) ver v) : RV w M β lk v (.osl id ver)
  | bp (id off g : Nat) (cs : List AV) (hl : lk id = .cells cs) (hb : β id = .pointer (some ⟨g, 0, none⟩)) : RV w M β lk (.pointer (some ⟨g, off, none⟩)) (.bp id off)
  | op (id ver i sz off : Nat) (v : Value) (h1 : v.oneCell' = true) (h : OpOK (lk id) (β id) ver i sz off v) : RV w M β lk v (.op id ver i sz off)
  | ip (ad : Addr) (ds : List D) (cell : Nat → Value) (hb : ad.block < w.heap.size) (hM : ¬ M ad.block) (hcell : ∀ j, j < ds.length → w.cell? (ad.add j) = some (cell j))
      (h : ∀ j d, ds[j]? = some d → Rp w M (cell j) d) : RV w M β lk (.pointer (some ad)) (.ip ds)
  | mp (id g kt et : Nat) (es : List (Value × Value)) (hl : lk id = .map kt et es) (hb : β id = .map (some g)) : RV w M β lk (.map (some g)) (.mp id)
  | fn (f : Nat) (caps : Array Value) (cs : List AV) (hs : caps.size = cs.length) (h : ∀ j av, cs[j]? = some av → RV w M β lk (caps.getD j undef) av) : RV w M β lk (.func (.func f) #[] caps) (.fn f cs)
  | agv (cs : Array Value) (vs : List AV) (hs : cs.size = vs.length) (h1 : ∀ j av, vs[j]? = some av → (cs.getD j undef).oneCell' = true) (h : ∀ j av, vs[j]? = some av → RV w M β lk (cs.getD j undef) av) : RV w M β lk (.agg cs) (.agv vs)
  | fsl (id rv p : Nat) (v : Value) (h1 : v.oneCell' = true) (h : FslOK (lk id) (β id) rv p v) : RV w M β lk v (.fsl id rv p)
  | fop (id rv p j sz off : Nat) (v : Value) (h1 : v.oneCell' = true) (h : FopOK (lk id) (β id) rv p j sz off v) : RV w M β lk v (.fop id rv p j sz off)
  | csl (id ver lo n sz : Nat) (v : Value) (h1 : v.oneCell' = true) (h : CslOK (lk id) (β id) ver lo n sz v) : RV w M β lk v (.csl id ver lo n sz)
  | cfl (id rv p n : Nat) (v : Value) (h1 : v.oneCell' = true) (h : CflOK (lk id) (β id) rv p n v) : RV w M β lk v (.cfl id rv p n)
  | zp (T : Nat) : RV w M β lk (.pointer none) (.zp T)

/-- what a cell of a block of the type el may be -/
def cellT (el : Nat) : AV → Prop
  | .zp T => T = el
  | v => cellAV v = true
theorem cellT_of {el : Nat} {av : AV} (h : cellAV av = true) : cellT el av := by
  cases av <;> first | exact h | cases h

/-- how a box may have turned, so that what names it still does -/
def Turned (b : Box) (v : Value) (b' : Box) (v' : Value) : Prop :=
  match b with
  | .dead => True
  | .cells _ => (∃ cs, b' = .cells cs) ∧ v' = v
  | .arr _ n ys => (∃ e n' xs, b' = .arr e n' xs ∧ n ≤ n' ∧ (n = n' → v' = v ∧ ∀ sz, SzOK ys sz → SzOK xs sz)) ∨ (∃ n' xs, b' = .frz n' xs ∧ n ≤ n' ∧ (n = n' → outerV v' = v))
  | .frz n _ => (∃ xs, b' = .frz n xs) ∧ v' = v
  | .map _ _ _ => (∃ kt et es, b' = .map kt et es) ∧ v' = v
  | .nest _ n r _ rows => (∃ e n' r' dt rows', b' = .nest e n' r' dt rows' ∧ n ≤ n' ∧ (n = n' → outerV v' = outerV v) ∧ r ≤ r' ∧ (r = r' → rows'.length = rows.length ∧ v' = v ∧ ∀ p sz, SzOK (rows.getD p []) sz → SzOK (rows'.getD p []) sz)) ∨ (∃ n' xs, b' = .frz n' xs ∧ n ≤ n' ∧ (n = n' → outerV v' = outerV v))

theorem Turned.refl (b : Box) (v : Value) : Turned b v b v := by
  cases b with
  | dead => trivial
  | cells cs => exact ⟨⟨cs, rfl⟩, rfl⟩
  | arr e n xs => exact .inl ⟨e, n, xs, rfl, Nat.le_refl _, fun _ => ⟨rfl, fun _ h => h⟩⟩
  | frz n xs => exact ⟨⟨xs, rfl⟩, rfl⟩
  | map kt et es => exact ⟨⟨kt, et, es, rfl⟩, rfl⟩
  | nest e n r dt rows => exact .inl ⟨e, n, r, dt, rows, rfl, Nat.le_refl _, fun _ => rfl, Nat.le_refl _, fun _ => ⟨rfl, rfl, fun _ _ h => h⟩⟩

theorem Turned.trans {a b c : Box} {x y z : Value} (h : Turned a x b y) (h' : Turned b y c z) : Turned a x c z := by
  cases a with
  | dead => trivial
  | cells cs =>
    obtain ⟨⟨cs', rfl⟩, rfl⟩ := h
    exact h'
  | arr e n ys =>
    rcases h with ⟨e', n', xs, rfl, hn, hv⟩ | ⟨n', xs, rfl, hn, hv⟩
    · rcases h' with ⟨e2, n2, xs2, rfl, hn2, hv2⟩ | ⟨n2, xs2, rfl, hn2, hv2⟩
      · refine .inl ⟨e2, n2, xs2, rfl, Nat.le_trans hn hn2, fun he => ?_⟩
        have h1 : n = n' := by omega
        have h2 : n' = n2 := by omega
        exact ⟨(hv2 h2).1.trans (hv h1).1, fun sz hs => (hv2 h2).2 sz ((hv h1).2 sz hs)⟩
      · exact .inr ⟨n2, xs2, rfl, Nat.le_trans hn hn2, fun he => (hv2 (by omega)).trans (hv (by omega)).1⟩
    · obtain ⟨⟨xs2, rfl⟩, rfl⟩ := h'
      exact .inr ⟨n', xs2, rfl, hn, hv⟩
  | frz n xs =>
    obtain ⟨⟨xs', rfl⟩, rfl⟩ := h
    exact h'
  | map kt et es =>
    obtain ⟨⟨kt', et', es', rfl⟩, rfl⟩ := h
    exact h'
  | nest e n r dt rows =>
    rcases h with ⟨e', n', r', dt', rows', rfl, hn, ho, hr, hv⟩ | ⟨n', xs, rfl, hn, ho⟩
    · rcases h' with ⟨e2, n2, r2, dt2, rows2, rfl, hn2, ho2, hr2, hv2⟩ | ⟨n2, xs2, rfl, hn2, ho2⟩
      · refine .inl ⟨e2, n2, r2, dt2, rows2, rfl, Nat.le_trans hn hn2, fun he => (ho2 (by omega)).trans (ho (by omega)), Nat.le_trans hr hr2, fun he => ?_⟩
        have h1 : r = r' := by omega
        have h2 : r' = r2 := by omega
        exact ⟨(hv2 h2).1.trans (hv h1).1, (hv2 h2).2.1.trans (hv h1).2.1, fun p sz hs => (hv2 h2).2.2 p sz ((hv h1).2.2 p sz hs)⟩
      · exact .inr ⟨n2, xs2, rfl, Nat.le_trans hn hn2, fun he => (ho2 (by omega)).trans (ho (by omega))⟩
    · obtain ⟨⟨xs2, rfl⟩, rfl⟩ := h'
      exact .inr ⟨n', xs2, rfl, hn, ho⟩

theorem OslOK.turn {b b' : Box} {x x' v : Value} {ver : Nat} (h : OslOK b x ver v) (ht : Turned b x b' x') : OslOK b' x' ver v := by
  cases b with
  | dead => exact h.elim
  | cells cs => exact h.elim
  | arr e n xs =>
    obtain ⟨h1, h2⟩ := h
    rcases ht with ⟨e', n', xs', rfl, hn, hv⟩ | ⟨n', xs', rfl, hn, hv⟩
    · refine ⟨Nat.le_trans h1 hn, fun he => ?_⟩
      have hnn : n = n' := by omega
      rw [(hv hnn).1]; exact h2 (by omega)
    · refine ⟨Nat.le_trans h1 hn, fun he => ?_⟩
      rw [hv (by omega)]; exact h2 (by omega)
  | frz n xs =>
    obtain ⟨⟨xs', rfl⟩, rfl⟩ := ht
    exact h
  | map kt et es => exact h.elim
  | nest e n r dt rows =>
    obtain ⟨h1, h2⟩ := h
    rcases ht with ⟨e', n', r', dt', rows', rfl, hn, ho, hr, hv⟩ | ⟨n', xs', rfl, hn, ho⟩
    · exact ⟨Nat.le_trans h1 hn, fun he => by rw [ho (by omega)]; exact h2 (by omega)⟩
    · exact ⟨Nat.le_trans h1 hn, fun he => by rw [ho (by omega)]; exact h2 (by omega)⟩

theorem OpOK.turn {b b' : Box} {x x' v : Value} {ver i sz off : Nat} (h : OpOK b x ver i sz off v) (ht : Turned b x b' x') : OpOK b' x' ver i sz off v := by
  cases b with
  | dead => exact h.elim
  | cells cs => exact h.elim
  | arr e n xs =>
    obtain ⟨h1, h2⟩ := h
    rcases ht with ⟨e', n', xs', rfl, hn, hv⟩ | ⟨n', xs', rfl, hn, hv⟩
    · refine ⟨Nat.le_trans h1 hn, fun he => ?_⟩
      have hnn : n = n' := by omega
      obtain ⟨hs, hp⟩ := h2 (by omega)
      rw [(hv hnn).1]; exact ⟨(hv hnn).2 sz hs, hp⟩
    · exact Nat.le_trans h1 hn
  | frz n xs =>
    obtain ⟨⟨xs', rfl⟩, rfl⟩ := ht
    exact h
  | map kt et es => exact h.elim
  | nest e n r dt rows =>
    obtain ⟨h1, h2⟩ := h
    rcases ht with ⟨e', n', r', dt', rows', rfl, hn, ho, hr, hv⟩ | ⟨n', xs', rfl, hn, ho⟩
    · exact ⟨Nat.le_trans h1 hn, fun he => by rw [ho (by omega)]; exact h2 (by omega)⟩
    · exact Nat.le_trans h1 hn

theorem FslOK.turn {b b' : Box} {x x' v : Value} {rv p : Nat} (h : FslOK b x rv p v) (ht : Turned b x b' x') : FslOK b' x' rv p v := by
  cases b with
  | dead => exact h.elim
  | cells cs => exact h.elim
  | arr e n xs => exact h.elim
  | map kt et es => exact h.elim
  | frz n xs =>
    obtain ⟨⟨xs', rfl⟩, rfl⟩ := ht
    exact trivial
  | nest e n r dt rows =>
    obtain ⟨h1, h2⟩ := h
    rcases ht with ⟨e', n', r', dt', rows', rfl, hn, ho, hr, hv⟩ | ⟨n', xs', rfl, hn, ho⟩
    · refine ⟨Nat.le_trans h1 hr, fun he => ?_⟩
      have hrr : r = r' := by omega
      rw [(hv hrr).2.1, (hv hrr).1]
      exact h2 (by omega)
    · exact trivial

theorem FopOK.turn {b b' : Box} {x x' v : Value} {rv p j sz off : Nat} (h : FopOK b x rv p j sz off v) (ht : Turned b x b' x') : FopOK b' x' rv p j sz off v := by
  cases b with
  | dead => exact h.elim
  | cells cs => exact h.elim
  | arr e n xs => exact h.elim
  | map kt et es => exact h.elim
  | frz n xs =>
    obtain ⟨⟨xs', rfl⟩, rfl⟩ := ht
    exact trivial
  | nest e n r dt rows =>
    obtain ⟨h1, h2⟩ := h
    rcases ht with ⟨e', n', r', dt', rows', rfl, hn, ho, hr, hv⟩ | ⟨n', xs', rfl, hn, ho⟩
    · refine ⟨Nat.le_trans h1 hr, fun he => ?_⟩
      have hrr : r = r' := by omega
      obtain ⟨g1, g2, g3⟩ := h2 (by omega)
      rw [(hv hrr).2.1, (hv hrr).1]
      exact ⟨g1, (hv hrr).2.2 p sz g2, g3⟩
    · exact trivial

theorem CslOK.turn {b b' : Box} {x x' v : Value} {ver lo m sz : Nat} (h : CslOK b x ver lo m sz v) (ht : Turned b x b' x') : CslOK b' x' ver lo m sz v := by
  cases b with
  | dead => exact h.elim
  | cells cs => exact h.elim
  | arr e n xs =>
    obtain ⟨h1, h2⟩ := h
    rcases ht with ⟨e', n', xs', rfl, hn, hv⟩ | ⟨n', xs', rfl, hn, hv⟩
    · refine ⟨Nat.le_trans h1 hn, fun he => ?_⟩
      have hnn : n = n' := by omega
      obtain ⟨hs, hp⟩ := h2 (by omega)
      rw [(hv hnn).1]; exact ⟨(hv hnn).2 sz hs, hp⟩
    · exact Nat.le_trans h1 hn
  | frz n xs =>
    obtain ⟨⟨xs', rfl⟩, rfl⟩ := ht
    exact h
  | map kt et es => exact h.elim
  | nest e n r dt rows => exact h.elim

theorem CflOK.turn {b b' : Box} {x x' v : Value} {rv p m : Nat} (h : CflOK b x rv p m v) (ht : Turned b x b' x') : CflOK b' x' rv p m v := by
  cases b with
  | dead => exact h.elim
  | cells cs => exact h.elim
  | arr e n xs => exact h.elim
  | map kt et es => exact h.elim
  | frz n xs =>
    obtain ⟨⟨xs', rfl⟩, rfl⟩ := ht
    exact trivial
  | nest e n r dt rows =>
    obtain ⟨h1, h2⟩ := h
    rcases ht with ⟨e', n', r', dt', rows', rfl, hn, ho, hr, hv⟩ | ⟨n', xs', rfl, hn, ho⟩
    · refine ⟨Nat.le_trans h1 hr, fun he => ?_⟩
      have hrr : r = r' := by omega
      rw [(hv hrr).2.1, (hv hrr).1]
      exact h2 (by omega)
    · exact trivial

theorem RV.keep {w w' : World} {M M' : Nat → Prop} {β β' : Nat → Value} {lk lk' : Nat → Box} {v : Value} {av : AV} (h : RV w M β lk v av) (hsz : w.heap.size ≤ w'.heap.size) (hk : Kept w M w' M')
    (ht : ∀ id, Turned (lk id) (β id) (lk' id) (β' id)) : RV w' M' β' lk' v av := by
  induction h with
  | top v => exact .top v
  | c v d h => exact .c v d (h.keep hk)
  | ag cs ds hs h => exact .ag cs ds hs fun j d hd => (h j d hd).keep hk
  | tp vs avs hs h ih => exact .tp vs avs hs fun j av hj => ih j av hj
  | osl id ver v h1 h => exact .osl id ver v h1 (h.turn (ht id))
  | bp id off g cs hl hb =>
    have := ht id
    rw [hl] at this
    obtain ⟨⟨cs', hc⟩, hv⟩ := this
    exact .bp id off g cs' hc (hv.trans hb)
  | op id ver i sz off v h1 h => exact .op id ver i sz off v h1 (h.turn (ht id))
  | ip ad ds cell hb hM hcell h =>
    exact .ip ad ds cell (by omega) (hk _ hb hM).2 (fun j hj => hk.cell (by rw [block_of_add]; exact hM) (hcell j hj)) fun j d hd => (h j d hd).keep hk
  | mp id g kt et es hl hb =>
    have := ht id
    rw [hl] at this
    obtain ⟨⟨kt', et', es', hc⟩, hv⟩ := this
    exact .mp id g kt' et' es' hc (hv.trans hb)
  | fn f caps cs hs h ih => exact .fn f caps cs hs fun j av hj => ih j av hj
  | agv cs vs hs h1 h ih => exact .agv cs vs hs h1 fun j av hj => ih j av hj
  | fsl id rv p v h1 h => exact .fsl id rv p v h1 (h.turn (ht id))
  | fop id rv p j sz off v h1 h => exact .fop id rv p j sz off v h1 (h.turn (ht id))
  | csl id ver lo n sz v h1 h => exact .csl id ver lo n sz v h1 (h.turn (ht id))
  | cfl id rv p n v h1 h => exact .cfl id rv p n v h1 (h.turn (ht id))
  | zp T => exact .zp T

theorem RV.oneCell {w : World} {M : Nat → Prop} {β : Nat → Value} {lk : Nat → Box} {v : Value} {av : AV} (h : RV w M β lk v av) (hc : cellAV av = true) : v.oneCell' = true := by
  cases h with
  | top => cases hc
  | c v d h => exact h.one
  | ag => cases hc
  | tp => cases hc
  | osl _ _ _ h1 => exact h1
  | bp => rfl
  | op _ _ _ _ _ _ h1 => exact h1
  | ip => rfl
  | mp => rfl
  | fn => rfl
  | agv => cases hc
  | fsl _ _ _ _ h1 => exact h1
  | fop _ _ _ _ _ _ _ h1 => exact h1
  | csl _ _ _ _ _ _ h1 => exact h1
  | cfl _ _ _ _ _ h1 => exact h1
  | zp => cases hc

/-! ### the program's types -/
def notAgg : TypeDesc → Bool
  | .struct _ => false
  | .array _ _ => false
  | _ => true
def FieldsOK (E : Env) (n : Nat) (fields : List Field) (fs : List (Nat × Nat)) : Prop :=
  fields.map (fun f => (f.offset, f.type)) = fs ∧ ∀ f ∈ fields, f.name ≠ "_" ∧ ∃ ti, E f.type = some ti ∧ 0 < ti.size ∧ f.offset + ti.size ≤ n
def KindOK (P : Program) (E : Env) (T : Nat) (ti : TI) : Prop :=
  match ti.kind with
  | .other => ∃ d, P.underlying T = some d ∧ notAgg d = true ∧ (∀ e, d ≠ .slice e) ∧ ti.size = 1
  | .int k => P.underlying T = some (.int k) ∧ ti.size = 1
  | .str => P.underlying T = some .string ∧ ti.size = 1
  | .bool => P.underlying T = some .bool ∧ ti.size = 1
  | .struct fs => ∃ fields, P.underlying T = some (.struct fields) ∧ FieldsOK E ti.size fields.toList fs ∧ P.stoodInHeld T = false ∧ P.eqGuardType P.depth T = false
  | .array n e => P.underlying T = some (.array n e) ∧ P.eqGuardType P.depth T = false ∧ ∃ te, E e = some te ∧ 0 < te.size ∧ ti.size = n * te.size
  | .map k e => P.underlying T = some (.map k e) ∧ ti.size = 1
  | .slice e => P.underlying T = some (.slice e) ∧ ti.size = 1 ∧ ∃ te, E e = some te ∧ 0 < te.size ∧ 0 < te.bytes
structure TyOK (P : Program) (E : Env) (T : Nat) (ti : TI) : Prop where
  info : ∃ i z, P.info? T = some i ∧ i.size = ti.size ∧ i.bytes = ti.bytes ∧ i.zero = some z ∧ z.cells = ti.zero.toArray
  zero : ti.zero.length = ti.size ∧ ∀ v ∈ ti.zero, v.oneCell' = true
  pos : 0 < ti.size
  one : kAgg ti.kind = false → ∀ i z, P.info? T = some i → i.zero = some z → z.oneCell' = true
  kind : KindOK P E T ti
def EnvOK (P : Program) (E : Env) : Prop := ∀ T ti, E T = some ti → TyOK P E T ti

/-! ### the state -/
structure Ctx where
  P : Program
  E : Env
  w0 : World
  M0 : Nat → Prop
  ext : Nat → Prop
  n : Nat
  pb : List (Nat × Box)
  pv : Nat → Value
  ds : List Nat
  dt : List Deferred

/-- the marks of the loops over functions that are behind -/
def mark (D : Nat) : Deferred := { target := .collected D, args := #[] }
def DsOK (X : Ctx) : Prop := X.ds.Nodup ∧ ∀ D ∈ X.ds, X.M0 D ∧ X.w0.heap[D]? = some (.deferred (some []))

def Ctx.own (X : Ctx) (g : Nat) : Prop := X.w0.heap.size ≤ g ∨ X.ext g

structure Keep (X : Ctx) (w : World) : Prop where
  os : w.os = X.w0.os
  tape : w.tape = X.w0.tape
  output : w.output = X.w0.output
  size : X.w0.heap.size ≤ w.heap.size
  block : ∀ k, k < X.w0.heap.size → ¬ X.ext k → w.heap[k]? = X.w0.heap[k]?

/-- the blocks that are not read by value -/
def MM (X : Ctx) (lk : Nat → Box) (β : Nat → Value) (k : Nat) : Prop := X.M0 k ∨ ∃ id, live (lk id) = true ∧ Blk (β id) k

/-- an owned slice of owned slices: 'vs' are the outer slice and its rows, 'cs' the outer cells, 'flat' the cells of the rows -/
structure NestOK (X : Ctx) (w : World) (M : Nat → Prop) (e : Nat) (te : TI) (e' : Nat) (te' : TI) (b : Value) (vs : Array Value) (cs : List Value) (flat : Nat → List Value) (dt : Option Nat) (rows : List (List (List D))) : Prop where
  ty : X.E e = some te
  one : te.size = 1
  kind : te.kind = .slice e'
  ty' : X.E e' = some te'
  pos : 0 < te'.size
  len : ∀ r ∈ rows, ∀ x ∈ r, x.length = te'.size
  val : b = .tuple vs
  size : vs.size = rows.length + 1
  outer : w.ownsRow 0 e 1 (vs.getD 0 undef) rows.length cs
  row : ∀ (p : Nat) r, rows[p]? = some r → w.ownsRow 0 e' te'.size (vs.getD (p + 1) undef) r.length (flat p)
  at_ : ∀ (p : Nat) r, rows[p]? = some r → ∀ (i : Nat) x (j : Nat) d, r[i]? = some x → x[j]? = some d → Rp w M ((flat p).getD (i * te'.size + j) undef) d
  cell : ∀ (p : Nat), p < rows.length → dt ≠ some p → cs.getD p undef = vs.getD (p + 1) undef
  apart : ∀ i j k, blk (vs.getD i undef) = some k → blk (vs.getD j undef) = some k → i = j
  own : ∀ k, Blk b k → X.own k

def BoxOK (X : Ctx) (w : World) (M : Nat → Prop) (β : Nat → Value) (lk : Nat → Box) (id : Nat) : Box → Prop
  | .dead => True
  | .cells cs => ∃ g el conc, β id = .pointer (some ⟨g, 0, none⟩) ∧ X.own g ∧ w.heap[g]? = some (.cells conc el (0, 0)) ∧ conc.size = cs.length ∧
      (∀ j av, cs[j]? = some av → cellT el av ∧ RV w M β lk (conc.getD j undef) av)
  | .arr e _ xs => ∃ te flat, X.E e = some te ∧ 0 < te.size ∧ (∀ x ∈ xs, x.length = te.size) ∧ w.ownsRow 0 e te.size (β id) xs.length flat ∧ (∀ k, Blk (β id) k → X.own k) ∧
      (∀ i x j d, xs[i]? = some x → x[j]? = some d → Rp w M (flat.getD (i * te.size + j) undef) d)
  | .frz _ xs => Rp w M (outerV (β id)) (.sl xs)
  | .map kt et es => ∃ g ents clock, β id = .map (some g) ∧ X.own g ∧ w.heap[g]? = some (.map ents clock) ∧ ents.toList.map (fun e => (e.key, e.val)) = es ∧
      (∀ p ∈ es, keyOK (kindOf (X.E kt)) p.1 = true ∧ p.2.oneCell' = true)
  | .nest e _ _ dt rows => ∃ te e' te' vs cs flat, NestOK X w M e te e' te' (β id) vs cs flat dt rows

structure Inv (X : Ctx) (s : S) (a : Act) (w : World) (β : Nat → Value) : Prop where
  df : a.defers = X.ds.map mark ++ X.dt ∧ DsOK X
  sz : a.tmps.size = X.n
  keep : Keep X w
  m0 : ∀ k, X.M0 k → k < X.w0.heap.size ∧ ¬ X.ext k
  box : ∀ id, BoxOK X w (MM X (lookB · s.bx) β) β (lookB · s.bx) id (lookB id s.bx)
  inj : ∀ i j k, live (lookB i s.bx) = true → live (lookB j s.bx) = true → Blk (β i) k → Blk (β j) k → i = j
  fr : ∀ i, RV w (MM X (lookB · s.bx) β) β (lookB · s.bx) (a.tmps.getD i undef) (look i s.fr)
  pin : ∀ id, Turned (lookB id X.pb) (X.pv id) (lookB id s.bx) (β id)

end Go.Vx
end

section
set_option linter.unusedVariables false
set_option linter.unusedSimpArgs false
namespace Go.Vx
open Go Go.RowKit

theorem getD_put (a : Act) (d i : Nat) (v : Value) (hd : d < a.tmps.size) : (a.put (some d) v).tmps.getD i undef = if i = d then v else a.tmps.getD i undef := by
  simp only [Act.put, Array.getD_eq_getD_getElem?, Array.getElem?_setIfInBounds]
  by_cases h : d = i
  · subst h; simp [hd]
  · have h' : ¬ i = d := fun e => h e.symm
    simp [h, h']

theorem look_cons (i d : Nat) (v : AV) (r : List (Nat × AV)) : look i ((d, v) :: r) = if i = d then v else look i r := by
  by_cases h : i = d
  · simp [look, h]
  · have h' : (i == d) = false := by simpa using h
    simp [look, h, h']
theorem lookB_cons (i d : Nat) (v : Box) (r : List (Nat × Box)) : lookB i ((d, v) :: r) = if i = d then v else lookB i r := by
  by_cases h : i = d
  · simp [lookB, h]
  · have h' : (i == d) = false := by simpa using h
    simp [lookB, h, h']

abbrev Inv.MM {X : Ctx} {s : S} {a : Act} {w : World} {β : Nat → Value} (_h : Inv X s a w β) : Nat → Prop := Vx.MM X (lookB · s.bx) β

theorem Inv.putv {X : Ctx} {s : S} {a : Act} {w : World} {β : Nat → Value} {d : Nat} {v : Value} {av : AV} (h : Inv X s a w β) (hd : d < X.n)
    (hv : RV w (Vx.MM X (lookB · s.bx) β) β (lookB · s.bx) v av) : Inv X ⟨(d, av) :: s.fr, s.bx⟩ (a.put (some d) v) w β := by
  refine ⟨h.df, by simp [Act.put, h.sz], h.keep, h.m0, h.box, h.inj, fun i => ?_, h.pin⟩
  rw [getD_put a d i v (by rw [h.sz]; exact hd), look_cons]
  by_cases hi : i = d
  · simp only [hi, if_true]; exact hv
  · simp only [hi, if_false]; exact h.fr i

theorem Ctx.own_m0 {X : Ctx} (h : ∀ k, X.M0 k → k < X.w0.heap.size ∧ ¬ X.ext k) {k : Nat} (ho : X.own k) : ¬ X.M0 k := fun hm => by
  obtain ⟨h1, h2⟩ := h k hm
  rcases ho with h3 | h3
  · omega
  · exact h2 h3

theorem ownsRow_blk {w : World} {b e s n : Nat} {v : Value} {xs : List Value} {k : Nat} (h : w.ownsRow b e s v n xs) (hb : blk v = some k) : k < w.heap.size := by
  rcases h.2 with ⟨rfl, _⟩ | ⟨g, cap, cur, rfl, _, hg, _⟩
  · cases hb
  · injection hb with hb
    rw [← hb]
    exact (Array.getElem?_eq_some_iff.1 hg).1

theorem ownsRow_heap {w w' : World} {b e s n : Nat} {v : Value} {xs : List Value} (h : w.ownsRow b e s v n xs) (hh : ∀ k, blk v = some k → w'.heap[k]? = w.heap[k]?) : w'.ownsRow b e s v n xs := by
  refine ⟨h.1, ?_⟩
  rcases h.2 with hn | ⟨g, cap, cur, rfl, hb, hg, rest⟩
  · exact .inl hn
  · exact .inr ⟨g, cap, cur, rfl, hb, (hh g rfl).trans hg, rest⟩

theorem get_getD {α : Type} {l : List α} {i : Nat} {d : α} (h : i < l.length) : l[i]? = some (l.getD i d) := by
  simp [List.getD, List.getElem?_eq_getElem h]

theorem Blk.slice {w : World} {b e s n : Nat} {v : Value} {xs : List Value} {k : Nat} (h : w.ownsRow b e s v n xs) (hb : Blk v k) : blk v = some k := by
  rcases h.2 with ⟨rfl, _⟩ | ⟨g, cap, cur, rfl, _⟩ <;> exact hb

theorem NestOK.lt {X : Ctx} {w : World} {M : Nat → Prop} {e : Nat} {te : TI} {e' : Nat} {te' : TI} {b : Value} {vs : Array Value} {cs : List Value} {flat : Nat → List Value} {dt : Option Nat} {rows : List (List (List D))} (h : NestOK X w M e te e' te' b vs cs flat dt rows) {k : Nat} (hk : Blk b k) : k < w.heap.size := by
  rw [h.val] at hk
  obtain ⟨j, hj⟩ := hk
  cases j with
  | zero => exact ownsRow_blk h.outer hj
  | succ p =>
    by_cases hp : p < rows.length
    · exact ownsRow_blk (h.row p _ (List.getElem?_eq_getElem hp)) hj
    · have : vs.getD (p + 1) undef = undef := by
        have := h.size
        simp [Array.getD_eq_getD_getElem?, Array.getElem?_eq_none (show vs.size ≤ p + 1 by omega)]
      rw [this] at hj
      cases hj

theorem BoxOK.lt {X : Ctx} {w : World} {M : Nat → Prop} {β : Nat → Value} {lk : Nat → Box} {id : Nat} {b : Box} (h : BoxOK X w M β lk id b) (hl : live b = true) {k : Nat} (hk : Blk (β id) k) : k < w.heap.size ∧ X.own k := by
  cases b with
  | dead => cases hl
  | frz => cases hl
  | cells cs =>
    obtain ⟨g, el, conc, hb, ho, hg, _⟩ := h
    rw [hb] at hk
    have hk : some g = some k := hk
    injection hk with hk
    rw [← hk]
    exact ⟨(Array.getElem?_eq_some_iff.1 hg).1, ho⟩
  | arr e ver xs =>
    obtain ⟨te, flat, _, _, _, ho, hown, _⟩ := h
    exact ⟨ownsRow_blk ho (Blk.slice ho hk), hown k hk⟩
  | nest e ver rv dt rows =>
    obtain ⟨te, e', te', vs, cs, flat, hn⟩ := h
    exact ⟨hn.lt hk, hn.own k hk⟩
  | map kt et es =>
    obtain ⟨g, ents, clock, hb, ho, hg, _⟩ := h
    rw [hb] at hk
    have hk : some g = some k := hk
    injection hk with hk
    rw [← hk]
    exact ⟨(Array.getElem?_eq_some_iff.1 hg).1, ho⟩

theorem BoxOK.keep {X : Ctx} {w w' : World} {M M' : Nat → Prop} {β β' : Nat → Value} {lk lk' : Nat → Box} {id : Nat} {b : Box} (h : BoxOK X w M β lk id b) (hb : β' id = β id)
    (hh : ∀ k, live b = true → Blk (β id) k → w'.heap[k]? = w.heap[k]?) (hsz : w.heap.size ≤ w'.heap.size) (hk : Kept w M w' M') (ht : ∀ id, Turned (lk id) (β id) (lk' id) (β' id)) :
    BoxOK X w' M' β' lk' id b := by
  cases b with
  | dead => trivial
  | cells cs =>
    obtain ⟨g, el, conc, e, ho, hg, hs, hc⟩ := h
    exact ⟨g, el, conc, hb.trans e, ho, (hh g rfl (by rw [e]; rfl)).trans hg, hs, fun j av hj => ⟨(hc j av hj).1, (hc j av hj).2.keep hsz hk ht⟩⟩
  | arr e ver xs =>
    obtain ⟨te, flat, hE, h0, hl, ho, hown, hr⟩ := h
    refine ⟨te, flat, hE, h0, hl, ?_, by rw [hb]; exact hown, fun i x j d hx hd => (hr i x j d hx hd).keep hk⟩
    rw [hb]
    exact ownsRow_heap ho fun k hk => hh k rfl (.of hk)
  | frz ver xs =>
    show Rp w' M' (outerV (β' id)) (.sl xs)
    rw [hb]
    exact Rp.keep h hk
  | map kt et es =>
    obtain ⟨g, ents, clock, e, ho, hg, h1, h2⟩ := h
    exact ⟨g, ents, clock, hb.trans e, ho, (hh g rfl (by rw [e]; rfl)).trans hg, h1, h2⟩
  | nest e ver rv dt rows =>
    obtain ⟨te, e', te', vs, cs, flat, hn⟩ := h
    refine ⟨te, e', te', vs, cs, flat, { hn with val := hb.trans hn.val, outer := ownsRow_heap hn.outer fun k hk => hh k rfl ?_, row := fun p r hp => ownsRow_heap (hn.row p r hp) fun k hk => hh k rfl ?_, at_ := fun p r hp i x j d hx hd => (hn.at_ p r hp i x j d hx hd).keep hk, own := by rw [hb]; exact hn.own }⟩
    · rw [hn.val]; exact ⟨0, hk⟩
    · rw [hn.val]; exact ⟨p + 1, hk⟩

def upd1 (β : Nat → Value) (d : Nat) (v : Value) : Nat → Value := fun i => if i = d then v else β i
theorem upd1_same (β : Nat → Value) (d : Nat) (v : Value) : upd1 β d v d = v := by simp [upd1]
theorem upd1_other (β : Nat → Value) (d i : Nat) (v : Value) (h : i ≠ d) : upd1 β d v i = β i := by simp [upd1, h]
theorem upd1_id (β : Nat → Value) (d : Nat) : upd1 β d (β d) = β := by
  funext i
  by_cases h : i = d <;> simp [upd1, h]

/-- the facts on a box that is changed -/
structure Changed (X : Ctx) (s : S) (w : World) (β : Nat → Value) (d : Nat) (b1 : Box) (v1 : Value) (w' : World) : Prop where
  os : w'.os = w.os
  tape : w'.tape = w.tape
  output : w'.output = w.output
  size : w.heap.size ≤ w'.heap.size
  same : ∀ k, k < w.heap.size → ¬ (live (lookB d s.bx) = true ∧ Blk (β d) k) → w'.heap[k]? = w.heap[k]?
  new : ∀ k, live b1 = true → Blk v1 k → (w.heap.size ≤ k ∨ (live (lookB d s.bx) = true ∧ Blk (β d) k)) ∧ X.own k
  turn : Turned (lookB d s.bx) (β d) b1 v1

theorem Changed.lk (s : S) (d : Nat) (b1 : Box) (i : Nat) : lookB i ((d, b1) :: s.bx) = if i = d then b1 else lookB i s.bx := lookB_cons i d b1 s.bx

theorem Changed.turned {X : Ctx} {s : S} {w w' : World} {β : Nat → Value} {d : Nat} {b1 : Box} {v1 : Value} (hc : Changed X s w β d b1 v1 w') (id : Nat) :
    Turned (lookB id s.bx) (β id) (lookB id ((d, b1) :: s.bx)) (upd1 β d v1 id) := by
  rw [lookB_cons]
  by_cases h : id = d
  · subst h; simp only [if_true, upd1_same]; exact hc.turn
  · simp only [h, if_false, upd1_other β d id v1 h]; exact Turned.refl _ _

theorem Changed.kept {X : Ctx} {s : S} {w w' : World} {β : Nat → Value} {d : Nat} {b1 : Box} {v1 : Value} (hc : Changed X s w β d b1 v1 w') :
    Kept w (Vx.MM X (lookB · s.bx) β) w' (Vx.MM X (lookB · ((d, b1) :: s.bx)) (upd1 β d v1)) := by
  intro k hk hM
  have hno : ¬ (live (lookB d s.bx) = true ∧ Blk (β d) k) := fun hh => hM (.inr ⟨d, hh⟩)
  refine ⟨hc.same k hk hno, ?_⟩
  rintro (h0 | ⟨id, hl, hb⟩)
  · exact hM (.inl h0)
  · simp only [lookB_cons] at hl
    by_cases hi : id = d
    · subst hi
      simp only [if_true] at hl
      rw [upd1_same] at hb
      rcases (hc.new k hl hb).1 with h1 | h1
      · omega
      · exact hno h1
    · simp only [hi, if_false] at hl
      rw [upd1_other β d id v1 hi] at hb
      exact hM (.inr ⟨id, hl, hb⟩)

/-- a box is changed: what is asked is the new box alone -/
theorem Inv.upd {X : Ctx} {s : S} {a : Act} {w w' : World} {β : Nat → Value} {d : Nat} {b1 : Box} {v1 : Value} (h : Inv X s a w β) (hc : Changed X s w β d b1 v1 w')
    (hb : BoxOK X w' (Vx.MM X (lookB · ((d, b1) :: s.bx)) (upd1 β d v1)) (upd1 β d v1) (lookB · ((d, b1) :: s.bx)) d b1) :
    Inv X ⟨s.fr, (d, b1) :: s.bx⟩ a w' (upd1 β d v1) := by
  have hother : ∀ id, id ≠ d → ∀ k, live (lookB id s.bx) = true → Blk (β id) k → w'.heap[k]? = w.heap[k]? := fun id hne k hl hk =>
    hc.same k ((h.box id).lt hl hk).1 fun ⟨hl', hk'⟩ => hne (h.inj id d k hl hl' hk hk')
  refine ⟨h.df, h.sz, ⟨hc.os.trans h.keep.os, hc.tape.trans h.keep.tape, hc.output.trans h.keep.output, Nat.le_trans h.keep.size hc.size, fun k hk hx => ?_⟩, h.m0, fun id => ?_, ?_, fun i => ?_, fun id => (h.pin id).trans (hc.turned id)⟩
  · refine (hc.same k (Nat.lt_of_lt_of_le hk h.keep.size) fun ⟨hl, hb⟩ => ?_).trans (h.keep.block k hk hx)
    rcases ((h.box d).lt hl hb).2 with ho | ho
    · omega
    · exact hx ho
  · by_cases hi : id = d
    · subst hi
      have : lookB id ((id, b1) :: s.bx) = b1 := by simp [lookB_cons]
      rw [this]; exact hb
    · have e : lookB id ((d, b1) :: s.bx) = lookB id s.bx := by simp [lookB_cons, hi]
      rw [e]
      exact (h.box id).keep (upd1_other β d id v1 hi) (hother id hi) hc.size hc.kept hc.turned
  · intro i j k hi hj hki hkj
    simp only [lookB_cons] at hi hj
    by_cases h1 : i = d <;> by_cases h2 : j = d
    · rw [h1, h2]
    · simp only [h1, if_true] at hi
      simp only [h2, if_false] at hj
      rw [h1, upd1_same] at hki
      rw [upd1_other β d j v1 h2] at hkj
      rcases (hc.new k hi hki).1 with h3 | ⟨h3, h4⟩
      · have := ((h.box j).lt hj hkj).1; omega
      · rw [h1]; exact h.inj d j k h3 hj h4 hkj
    · simp only [h1, if_false] at hi
      simp only [h2, if_true] at hj
      rw [h2, upd1_same] at hkj
      rw [upd1_other β d i v1 h1] at hki
      rcases (hc.new k hj hkj).1 with h3 | ⟨h3, h4⟩
      · have := ((h.box i).lt hi hki).1; omega
      · rw [h2]; exact h.inj i d k hi h3 hki h4
    · simp only [h1, if_false] at hi
      simp only [h2, if_false] at hj
      rw [upd1_other β d i v1 h1] at hki
      rw [upd1_other β d j v1 h2] at hkj
      exact h.inj i j k hi hj hki hkj
  · exact (h.fr i).keep hc.size hc.kept hc.turned

/-- several boxes are changed at once -/
theorem Inv.upds {X : Ctx} {s : S} {a : Act} {w w' : World} {β β' : Nat → Value} {bx' : List (Nat × Box)} (h : Inv X s a w β) (h1 : w'.os = w.os) (h2 : w'.tape = w.tape) (h3 : w'.output = w.output) (hsz : w.heap.size ≤ w'.heap.size)
    (hsame : ∀ k, k < w.heap.size → ¬ (∃ id, live (lookB id s.bx) = true ∧ Blk (β id) k) → w'.heap[k]? = w.heap[k]?)
    (hmm : ∀ k, k < w.heap.size → ∀ id, live (lookB id bx') = true → Blk (β' id) k → ∃ id, live (lookB id s.bx) = true ∧ Blk (β id) k)
    (ht : ∀ id, Turned (lookB id s.bx) (β id) (lookB id bx') (β' id))
    (hb : Kept w (Vx.MM X (lookB · s.bx) β) w' (Vx.MM X (lookB · bx') β') → ∀ id, BoxOK X w' (Vx.MM X (lookB · bx') β') β' (lookB · bx') id (lookB id bx'))
    (hin : ∀ i j k, live (lookB i bx') = true → live (lookB j bx') = true → Blk (β' i) k → Blk (β' j) k → i = j) : Inv X ⟨s.fr, bx'⟩ a w' β' := by
  have hk : Kept w (Vx.MM X (lookB · s.bx) β) w' (Vx.MM X (lookB · bx') β') := fun k hk hM => by
    refine ⟨hsame k hk fun he => hM (.inr he), ?_⟩
    rintro (h0 | ⟨id, hl, hb⟩)
    · exact hM (.inl h0)
    · exact hM (.inr (hmm k hk id hl hb))
  refine ⟨h.df, h.sz, ⟨h1.trans h.keep.os, h2.trans h.keep.tape, h3.trans h.keep.output, Nat.le_trans h.keep.size hsz, fun k hk hx => ?_⟩, h.m0, hb hk, hin, fun i => (h.fr i).keep hsz hk ht, fun id => (h.pin id).trans (ht id)⟩
  refine (hsame k (Nat.lt_of_lt_of_le hk h.keep.size) fun ⟨id, hl, hb⟩ => ?_).trans (h.keep.block k hk hx)
  rcases ((h.box id).lt hl hb).2 with ho | ho
  · omega
  · exact hx ho

/-- a world that differs in draws alone -/
theorem Inv.draw {X : Ctx} {s : S} {a : Act} {w w' : World} {β : Nat → Value} (h : Inv X s a w β) (h1 : w'.heap = w.heap) (h2 : w'.os = w.os) (h3 : w'.tape = w.tape) (h4 : w'.output = w.output) : Inv X s a w' β := by
  have hk : Kept w (Vx.MM X (lookB · s.bx) β) w' (Vx.MM X (lookB · s.bx) β) := fun k _ hM => ⟨by rw [h1], hM⟩
  refine ⟨h.df, h.sz, ⟨h2.trans h.keep.os, h3.trans h.keep.tape, h4.trans h.keep.output, by rw [h1]; exact h.keep.size, fun k hk hx => by rw [h1]; exact h.keep.block k hk hx⟩, h.m0, fun id => ?_, h.inj, fun i => ?_, h.pin⟩
  · exact (h.box id).keep rfl (fun k _ _ => by rw [h1]) (by rw [h1]; exact Nat.le_refl _) hk fun _ => Turned.refl _ _
  · exact (h.fr i).keep (by rw [h1]; exact Nat.le_refl _) hk fun _ => Turned.refl _ _

theorem Inv.ev {X : Ctx} {s : S} {a : Act} {w : World} {β : Nat → Value} (h : Inv X s a w β) (x : Operand) : RV w (Vx.MM X (lookB · s.bx) β) β (lookB · s.bx) (a.eval x) (ev s.fr x) := by
  cases x with
  | tmp t => exact h.fr t
  | const v =>
    cases v <;> first | exact .top _ | exact .c _ _ (.sc _ rfl)
  | global g => exact .top _
  | func f => exact .fn f #[] [] rfl (by simp)

/-! ### freezing: an owned slice is by value from now on -/
theorem flat_cells {w : World} {e size n : Nat} {g : Nat} {c : Nat} {flat : List Value} (h : w.ownsRow 0 e size (.slice (some ⟨g, 0, none⟩) n c) n flat) (j : Nat) (hj : j < n * size) :
    w.cell? ((⟨g, 0, none⟩ : Addr).add j) = some (flat.getD j undef) := by
  have hl : j < flat.length := by rw [h.1]; exact hj
  exact h.cells (g := g) rfl j _ (by simp [List.getD, List.getElem?_eq_getElem hl])

theorem outerV_own {w : World} {b e s n : Nat} {v : Value} {xs : List Value} (h : w.ownsRow b e s v n xs) : outerV v = v := by
  rcases h.2 with ⟨rfl, _⟩ | ⟨g, cap, cur, rfl, _⟩ <;> rfl

theorem Rp.of_row {w : World} {M : Nat → Prop} {e size : Nat} {v : Value} {flat : List Value} {xs : List (List D)} (h0 : 0 < size) (hl : ∀ x ∈ xs, x.length = size) (ho : w.ownsRow 0 e size v xs.length flat) (hb : ∀ k, blk v = some k → ¬ M k)
    (hr : ∀ i x j d, xs[i]? = some x → x[j]? = some d → Rp w M (flat.getD (i * size + j) undef) d) : Rp w M v (.sl xs) := by
  have ho0 := ho
  rcases ho.2 with ⟨hv, hn⟩ | ⟨g, cap, cur, hv, _, hg, hnc, hcm, _⟩
  · rw [hv]
    have : xs = [] := List.length_eq_zero_iff.1 hn
    subst this
    exact Rp.nil _ _
  · rw [hv]
    refine .sl _ cap size xs (fun j => flat.getD j undef) hnc hcm h0 hl (fun _ => ⟨_, rfl, hb g (by rw [hv]; rfl), fun j hj => ?_⟩) hr
    rw [hv] at ho0
    exact flat_cells ho0 j hj

theorem Rp.of_own {X : Ctx} {w : World} {M M' : Nat → Prop} {β : Nat → Value} {lk : Nat → Box} {id e ver : Nat} {xs : List (List D)} (h : BoxOK X w M β lk id (.arr e ver xs))
    (hM : ∀ k, M' k → M k) (hb : ∀ k, Blk (β id) k → ¬ M' k) : Rp w M' (β id) (.sl xs) := by
  obtain ⟨te, flat, _, h0, hl, ho, _, hr⟩ := h
  exact Rp.of_row h0 hl ho (fun k hk => hb k (.of hk)) fun i x j d hx hd => (hr i x j d hx hd).keep fun k _ hn => ⟨rfl, fun hm => hn (hM k hm)⟩

theorem rowsD_get {rows : List (List (List D))} {i : Nat} {x : List D} (h : (rowsD rows)[i]? = some x) : ∃ r, rows[i]? = some r ∧ x = [.sl r] := by
  unfold rowsD at h
  rw [List.getElem?_map] at h
  cases hr : rows[i]? with
  | none => rw [hr] at h; cases h
  | some r =>
    rw [hr] at h
    simp only [Option.map_some, Option.some.injEq] at h
    exact ⟨r, rfl, h.symm⟩

theorem NestOK.rowRp {X : Ctx} {w : World} {M M' : Nat → Prop} {e : Nat} {te : TI} {e' : Nat} {te' : TI} {b : Value} {vs : Array Value} {cs : List Value} {flat : Nat → List Value} {dt : Option Nat} {rows : List (List (List D))} (h : NestOK X w M e te e' te' b vs cs flat dt rows)
    (hM : ∀ k, M' k → M k) (hb : ∀ k, Blk b k → ¬ M' k) {p : Nat} {r : List (List D)} (hp : rows[p]? = some r) : Rp w M' (vs.getD (p + 1) undef) (.sl r) :=
  Rp.of_row h.pos (h.len r (List.mem_of_getElem? hp)) (h.row p r hp) (fun k hk => hb k (by rw [h.val]; exact ⟨p + 1, hk⟩)) fun i x j d hx hd => (h.at_ p r hp i x j d hx hd).keep fun k _ hn => ⟨rfl, fun hm => hn (hM k hm)⟩

theorem NestOK.rp {X : Ctx} {w : World} {M M' : Nat → Prop} {e : Nat} {te : TI} {e' : Nat} {te' : TI} {b : Value} {vs : Array Value} {cs : List Value} {flat : Nat → List Value} {rows : List (List (List D))} (h : NestOK X w M e te e' te' b vs cs flat none rows)
    (hM : ∀ k, M' k → M k) (hb : ∀ k, Blk b k → ¬ M' k) : Rp w M' (outerV b) (.sl (rowsD rows)) := by
  have hlen : (rowsD rows).length = rows.length := by unfold rowsD; rw [List.length_map]
  have ho := h.outer
  rw [← hlen] at ho
  rw [h.val]
  refine Rp.of_row (size := 1) (by omega) (fun x hx => ?_) ho (fun k hk => hb k (by rw [h.val]; exact ⟨0, hk⟩)) fun i x j d hx hd => ?_
  · obtain ⟨i, hi⟩ := List.getElem?_of_mem hx
    obtain ⟨r, _, rfl⟩ := rowsD_get hi
    rfl
  · obtain ⟨r, hr, rfl⟩ := rowsD_get hx
    cases j with
    | zero =>
      simp only [List.getElem?_cons_zero, Option.some.injEq] at hd
      subst hd
      have hi := (List.getElem?_eq_some_iff.1 hr).1
      rw [show i * 1 + 0 = i by omega, h.cell i hi (by simp)]
      exact h.rowRp hM hb hr
    | succ j => simp at hd

theorem mm_frz {X : Ctx} {s : S} {a : Act} {w : World} {β : Nat → Value} {id ver : Nat} {xs : List (List D)} (h : Inv X s a w β) (hl : live (lookB id s.bx) = true) :
    (∀ k, MM X (lookB · ((id, .frz ver xs) :: s.bx)) β k → MM X (lookB · s.bx) β k) ∧ ∀ k, Blk (β id) k → ¬ MM X (lookB · ((id, .frz ver xs) :: s.bx)) β k := by
  refine ⟨?_, ?_⟩
  · rintro k (h0 | ⟨i, hi, hk⟩)
    · exact .inl h0
    · simp only [lookB_cons] at hi
      by_cases hid : i = id
      · simp [hid, live] at hi
      · simp only [hid, if_false] at hi
        exact .inr ⟨i, hi, hk⟩
  · rintro k hk (h0 | ⟨i, hi, hki⟩)
    · exact X.own_m0 h.m0 ((h.box id).lt hl hk).2 h0
    · simp only [lookB_cons] at hi
      by_cases hid : i = id
      · simp [hid, live] at hi
      · simp only [hid, if_false] at hi
        exact hid (h.inj i id k hi hl hki hk)

theorem Inv.freeze {X : Ctx} {s : S} {a : Act} {w : World} {β : Nat → Value} {id e ver : Nat} {xs : List (List D)} (h : Inv X s a w β) (hl : lookB id s.bx = .arr e ver xs) :
    Inv X ⟨s.fr, (id, .frz ver xs) :: s.bx⟩ a w β := by
  have hb := h.box id
  rw [hl] at hb
  have hout : outerV (β id) = β id := by
    obtain ⟨te, flat, _, _, _, ho, _⟩ := hb
    exact outerV_own ho
  have hc : Changed X s w β id (.frz ver xs) (β id) w :=
    ⟨rfl, rfl, rfl, Nat.le_refl _, fun _ _ _ => rfl, fun _ hh => (by cases hh), by rw [hl]; exact .inr ⟨ver, xs, rfl, Nat.le_refl _, fun _ => hout⟩⟩
  obtain ⟨h1, h2⟩ := mm_frz (ver := ver) (xs := xs) h (id := id) (by rw [hl]; rfl)
  have := h.upd hc (by
    rw [upd1_id]
    show Rp w _ (outerV (β id)) (.sl xs)
    rw [hout]
    exact Rp.of_own hb h1 h2)
  rwa [upd1_id] at this

theorem Inv.freezeN {X : Ctx} {s : S} {a : Act} {w : World} {β : Nat → Value} {id e ver rv : Nat} {rows : List (List (List D))} (h : Inv X s a w β) (hl : lookB id s.bx = .nest e ver rv none rows) :
    Inv X ⟨s.fr, (id, .frz ver (rowsD rows)) :: s.bx⟩ a w β := by
  have hb := h.box id
  rw [hl] at hb
  obtain ⟨te, e', te', vs, cs, flat, hn⟩ := hb
  have hc : Changed X s w β id (.frz ver (rowsD rows)) (β id) w :=
    ⟨rfl, rfl, rfl, Nat.le_refl _, fun _ _ _ => rfl, fun _ hh => (by cases hh), by rw [hl]; exact .inr ⟨ver, rowsD rows, rfl, Nat.le_refl _, fun _ => rfl⟩⟩
  obtain ⟨h1, h2⟩ := mm_frz (ver := ver) (xs := rowsD rows) h (id := id) (by rw [hl]; rfl)
  have := h.upd hc (by
    rw [upd1_id]
    show Rp w _ (outerV (β id)) (.sl (rowsD rows))
    exact hn.rp h1 h2)
  rwa [upd1_id] at this

end Go.Vx
end

section
set_option linter.unusedVariables false
set_option linter.unusedSimpArgs false
namespace Go.Vx
open Go Go.RowKit

/-! ### contracts -/
def ResV (E : Env) (w' : World) (B : Nat) (M : Nat → Prop) (v : Value) : AV → Prop
  | .c d => Rp w' M v d
  | .ag ds => ∃ cs, v = .agg cs ∧ cs.size = ds.length ∧ ∀ j d, ds[j]? = some d → Rp w' M (cs.getD j undef) d
  | .fr e xs => ∃ te flat, E e = some te ∧ 0 < te.size ∧ (∀ x ∈ xs, x.length = te.size) ∧ w'.ownsRow B e te.size v xs.length flat ∧
      (∀ i x j d, xs[i]? = some x → x[j]? = some d → Rp w' M (flat.getD (i * te.size + j) undef) d)
  | _ => False
def isFr : AV → Bool
  | .fr _ _ => true
  | _ => false
def frBlk (vs : List AV) (arr : Array Value) (k : Nat) : Prop := ∃ j r, vs[j]? = some r ∧ isFr r = true ∧ blk (arr.getD j undef) = some k
def ResW (E : Env) (w' : World) (B : Nat) (M : Nat → Prop) (v : Value) : AV → Prop
  | .tp vs => ∃ arr, v = .tuple arr ∧ arr.size = vs.length ∧ ∀ j r, vs[j]? = some r → ResV E w' B (fun k => M k ∨ frBlk vs arr k) (arr.getD j undef) r
  | r => ResV E w' B (fun k => M k ∨ (isFr r = true ∧ blk v = some k)) v r

def Callable (P : Program) (f : Nat) : Prop := ∃ fn, P.funcs[f]? = some fn ∧ (fn.name == "runtime.NumGoroutine") = false ∧ fn.body.isNone = false

/-- CONTRACT: called with values that are 'args' by value, in whatever world, function f hands back 'r', and all old memory is as it was -/
def Ok (P : Program) (E : Env) (f : Nat) (args : List AV) (r : AV) : Prop :=
  Callable P f ∧ ∀ (w : World) (M : Nat → Prop) (vals : Array Value), (∀ k, M k → k < w.heap.size) → vals.size = args.length →
    (∀ j av, args[j]? = some av → RV w M (fun _ => undef) (fun _ => .dead) (vals.getD j undef) av) →
    Calls P f vals w fun e w' => ∃ v, e = .returned v ∧ Below w.heap.size w w' ∧ ResW E w' w.heap.size M v r

/-- a result without a reference, or one whose memory is its own and holds none: the arguments stay what they are -/
def ScV : AV → Prop
  | .c d => scD d = true
  | .ag ds => ds.all scD = true
  | .fr _ xs => ∀ x ∈ xs, x.all scD = true
  | _ => False
def ScFr : AV → Prop
  | .tp vs => ∀ v ∈ vs, ScV v
  | r => ScV r
/-- what an operation yields -/
def Gets (P : Program) (E : Env) (d : Nat) (b : Box) : R → AV → Upd → Prop
  | .val v u, v', u' => v' = v ∧ u' = u
  | .ob p r, v', u' => p ∧ Gets P E d b r v' u'
  | .br t x y, v', u' => (t = true ∧ Gets P E d b x v' u') ∨ (t = false ∧ Gets P E d b y v' u')
  | .call f args u _, v', u' => ∃ r u2 u3, Ok P E f args r ∧ resR d b r = some (v', u2) ∧ (u3 = cond (isSc r) [] u ∨ (ScFr r ∧ u3 = [])) ∧ u' = u2 ++ u3
  | .callM _ _, _, _ => False
  | .yld _ _ _ _, _, _ => False
  | .bad, _, _ => False

/-! ### running -/
theorem wp_val {P : Program} {o : Oper} {a : Act} {w w' : World} {K : Act → World → Prop} {Q : Exit → Act → World → Prop} {v : Value} (h : (execOp a.eval o).run P w = .ok (.value v) w') (hk : K (a.put o.dst v) w') : o.wp P a w K Q := by
  unfold Oper.wp; rw [h]; exact hk
theorem wp_skp {P : Program} {o : Oper} {a : Act} {w w' : World} {K : Act → World → Prop} {Q : Exit → Act → World → Prop} (h : (execOp a.eval o).run P w = .ok .skip w') (hk : K (a.put o.dst undef) w') : o.wp P a w K Q := by
  unfold Oper.wp; rw [h]; exact hk

section
variable {P : Program} {E : Env} {T : Nat} {ti : TI}
theorem TyOK.size_run (h : TyOK P E T ti) (w : World) : (sizeOf T).run P w = .ok ti.size w := by
  obtain ⟨i, z, h1, h2, _⟩ := h.info
  simp [sizeOf, typeInfo, h1, h2]
theorem TyOK.zero_run (h : TyOK P E T ti) (w : World) : ∃ z, (zeroValue T).run P w = .ok z w ∧ z.cells = ti.zero.toArray := by
  obtain ⟨i, z, h1, _, _, h4, h5⟩ := h.info
  exact ⟨z, by simp [zeroValue, typeInfo, h1, h4], h5⟩
theorem TyOK.agg_run (h : TyOK P E T ti) (w : World) : (isAgg T).run P w = .ok (kAgg ti.kind) w := by
  have hk := h.kind
  unfold KindOK at hk
  cases hkd : ti.kind <;> simp only [hkd] at hk
  · obtain ⟨d, h1, h2, _⟩ := hk
    cases d <;> first | (cases h2; done) | simp [isAgg, run_underlying h1, kAgg]
  · simp [isAgg, run_underlying hk.1, kAgg]
  · simp [isAgg, run_underlying hk.1, kAgg]
  · simp [isAgg, run_underlying hk.1, kAgg]
  · obtain ⟨fields, h1, _⟩ := hk
    simp [isAgg, run_underlying h1, kAgg]
  · simp [isAgg, run_underlying hk.1, kAgg]
  · simp [isAgg, run_underlying hk.1, kAgg]
  · simp [isAgg, run_underlying hk.1, kAgg]
theorem TyOK.size1 (h : TyOK P E T ti) (hk : kAgg ti.kind = false) : ti.size = 1 := by
  have h' := h.kind
  unfold KindOK at h'
  cases hkd : ti.kind <;> simp only [hkd] at h' hk
  · obtain ⟨d, _, _, _, h4⟩ := h'; exact h4
  · exact h'.2
  · exact h'.2
  · exact h'.2
  · cases hk
  · cases hk
  · exact h'.2.1
  · exact h'.2

/-- a load of whatever type, the cells given -/
theorem run_loadAt (h : TyOK P E T ti) (w : World) (ad : Addr) (f : Nat → Value) (hc : ∀ j, j < ti.size → w.cell? (ad.add j) = some (f j)) :
    (Instr.loadAt T (.pointer (some ad))).run P w = .ok (cond (kAgg ti.kind) (.agg ((List.range ti.size).map f).toArray) (f 0)) w := by
  cases hk : kAgg ti.kind
  · have h0 := hc 0 (by rw [h.size1 hk]; omega)
    rw [Addr.add_zero'] at h0
    simp [Instr.loadAt, Instr.sureAddr, loadVar, h.agg_run, hk, h0]
  · simp [Instr.loadAt, Instr.sureAddr, loadVar, h.agg_run, h.size_run, hk, run_loadCells w ad ti.size f hc]
end

theorem one_getD {l : List D} {n : Nat} (h : n < l.length) : l[n]? = some (l.getD n (.sc undef)) := by
  simp [List.getD, List.getElem?_eq_getElem h]

theorem agg_getD (n : Nat) (f : Nat → Value) (j : Nat) (hj : j < n) : (((List.range n).map f).toArray).getD j undef = f j := by
  simp [Array.getD, hj]

theorem RV.to_c {w : World} {M : Nat → Prop} {β : Nat → Value} {lk : Nat → Box} {v : Value} {d : D} (h : RV w M β lk v (.c d)) : Rp w M v d := by
  cases h; assumption

/-- what a load yields: out of the cells at an address -/
theorem load_val {X : Ctx} (hE : EnvOK X.P X.E) {w : World} {β : Nat → Value} {M : Nat → Prop} {lk : Nat → Box} {T d : Nat} {ti : TI} {bb : Box} (hT : X.E T = some ti) {ds : List D} {v : AV} {u : Upd} (hg : Gets X.P X.E d bb (loadD ti ds) v u)
    (ad : Addr) (f : Nat → Value) (hc : ∀ j, j < ds.length → w.cell? (ad.add j) = some (f j)) (hr : ∀ j d, ds[j]? = some d → Rp w M (f j) d) :
    u = [] ∧ ∃ v', (Instr.loadAt T (.pointer (some ad))).run X.P w = .ok v' w ∧ RV w M β lk v' v := by
  have hty := hE T ti hT
  unfold loadD at hg
  have hagg : ∀ (hk : kAgg ti.kind = true), Gets X.P X.E d bb (agR ti.size (some (ds.take ti.size))) v u → u = [] ∧ ∃ v', (Instr.loadAt T (.pointer (some ad))).run X.P w = .ok v' w ∧ RV w M β lk v' v := by
    intro hk hg
    simp only [agR] at hg
    cases hl : ((ds.take ti.size).length == ti.size) <;> rw [hl] at hg
    · exact hg.elim
    · obtain ⟨rfl, rfl⟩ := hg
      have hl' : ti.size ≤ ds.length := by
        have : (ds.take ti.size).length = ti.size := by simpa using hl
        rw [List.length_take] at this; omega
      refine ⟨rfl, _, run_loadAt hty w ad f (fun j hj => hc j (by omega)), ?_⟩
      rw [hk]
      refine .ag _ _ (by simp; omega) fun j d hd => ?_
      rw [List.getElem?_take] at hd
      split at hd
      · rename_i hj
        rw [agg_getD ti.size f j hj]; exact hr j d hd
      · cases hd
  have hone : ∀ (hk : kAgg ti.kind = false), Gets X.P X.E d bb (headR ds) v u → u = [] ∧ ∃ v', (Instr.loadAt T (.pointer (some ad))).run X.P w = .ok v' w ∧ RV w M β lk v' v := by
    intro hk hg
    cases ds with
    | nil => exact hg.elim
    | cons d0 r =>
      obtain ⟨rfl, rfl⟩ := hg
      refine ⟨rfl, _, run_loadAt hty w ad f (fun j hj => hc j (by rw [hty.size1 hk] at hj; simp; omega)), ?_⟩
      rw [hk]
      exact .c _ _ (hr 0 d0 rfl)
  cases hkd : ti.kind <;> simp only [hkd] at hg
  · exact hone (by rw [hkd]; rfl) hg
  · exact hone (by rw [hkd]; rfl) hg
  · exact hone (by rw [hkd]; rfl) hg
  · exact hone (by rw [hkd]; rfl) hg
  · exact hagg (by rw [hkd]; rfl) hg
  · exact hagg (by rw [hkd]; rfl) hg
  · exact hone (by rw [hkd]; rfl) hg
  · exact hone (by rw [hkd]; rfl) hg

theorem allD_some : ∀ {cs : List AV} {ds : List D}, allD cs = some ds → cs = ds.map .c
  | [], ds, h => by simp only [allD, Option.some.injEq] at h; subst h; rfl
  | v :: r, ds, h => by
    cases v <;> first | (simp only [allD] at h; done) | skip
    case c d =>
      simp only [allD] at h
      cases hr : allD r with
      | none => rw [hr] at h; cases h
      | some ds' =>
        rw [hr] at h
        simp only [Option.map_some, Option.some.injEq] at h
        subst h
        rw [allD_some hr]; rfl
    all_goals (simp [allD] at h)

theorem cellsTop_at : ∀ {l : List AV}, cellsTop l = true → ∀ (j : Nat) av, l[j]? = some av → cellAV av = true
  | [], _, j, av, h => by simp at h
  | v :: r, h, j, av, hj => by
    simp only [cellsTop] at h
    cases hv : cellAV v <;> rw [hv] at h
    · cases h
    · cases j with
      | zero =>
        simp only [List.getElem?_cons_zero, Option.some.injEq] at hj
        subst hj; exact hv
      | succ j => exact cellsTop_at h j av (by simpa using hj)

/-- .. out of a box -/
theorem load_box {X : Ctx} (hE : EnvOK X.P X.E) {w : World} {β : Nat → Value} {M : Nat → Prop} {lk : Nat → Box} {T d : Nat} {ti : TI} {bb : Box} (hT : X.E T = some ti) {cs : List AV} {v : AV} {u : Upd} (hg : Gets X.P X.E d bb (loadC ti cs) v u)
    (ad : Addr) (f : Nat → Value) (hc : ∀ j, j < cs.length → w.cell? (ad.add j) = some (f j)) (hr : ∀ j av, cs[j]? = some av → RV w M β lk (f j) av) :
    u = [] ∧ ∃ v', (Instr.loadAt T (.pointer (some ad))).run X.P w = .ok v' w ∧ RV w M β lk v' v := by
  have hty := hE T ti hT
  unfold loadC at hg
  have hagg : ∀ (hk : kAgg ti.kind = true), Gets X.P X.E d bb (agcR ti.size (cs.take ti.size) (allD (cs.take ti.size))) v u → u = [] ∧ ∃ v', (Instr.loadAt T (.pointer (some ad))).run X.P w = .ok v' w ∧ RV w M β lk v' v := by
    intro hk hg
    cases ha : allD (cs.take ti.size) with
    | none =>
      rw [ha] at hg
      simp only [agcR] at hg
      cases hl : ((cs.take ti.size).length == ti.size && cellsTop (cs.take ti.size)) <;> rw [hl] at hg
      · exact hg.elim
      · obtain ⟨rfl, rfl⟩ := hg
        simp only [Bool.and_eq_true, beq_iff_eq] at hl
        have hl' : ti.size ≤ cs.length := by
          have := hl.1
          rw [List.length_take] at this; omega
        refine ⟨rfl, _, run_loadAt hty w ad f (fun j hj => hc j (by omega)), ?_⟩
        rw [hk]
        have hat : ∀ (j : Nat) av, (cs.take ti.size)[j]? = some av → RV w M β lk ((((List.range ti.size).map f).toArray).getD j undef) av := fun j av hj => by
          have hjl : j < ti.size := by
            have := (List.getElem?_eq_some_iff.1 hj).1
            rw [hl.1] at this; exact this
          rw [agg_getD ti.size f j hjl]
          rw [List.getElem?_take, if_pos hjl] at hj
          exact hr j av hj
        exact .agv _ _ (by rw [hl.1]; simp) (fun j av hj => (hat j av hj).oneCell (cellsTop_at hl.2 j av hj)) hat
    | some ds =>
      rw [ha] at hg
      simp only [agcR, agR] at hg
      cases hl : (ds.length == ti.size) <;> rw [hl] at hg
      · exact hg.elim
      · obtain ⟨rfl, rfl⟩ := hg
        have hcs := allD_some ha
        have hlen : ds.length = ti.size := by simpa using hl
        have hl' : ti.size ≤ cs.length := by
          have := congrArg List.length hcs
          rw [List.length_take, List.length_map] at this; omega
        refine ⟨rfl, _, run_loadAt hty w ad f (fun j hj => hc j (by omega)), ?_⟩
        rw [hk]
        refine .ag _ _ (by simp; omega) fun j d hd => ?_
        have hj : j < ti.size := by
          rw [← hlen]; exact (List.getElem?_eq_some_iff.1 hd).1
        rw [agg_getD ti.size f j hj]
        have h1 : cs[j]? = some (.c d) := by
          have : (cs.take ti.size)[j]? = some (.c d) := by rw [hcs, List.getElem?_map, hd]; rfl
          rw [List.getElem?_take, if_pos hj] at this
          exact this
        exact (hr j _ h1).to_c
  have hone : ∀ (hk : kAgg ti.kind = false), Gets X.P X.E d bb (headA cs) v u → u = [] ∧ ∃ v', (Instr.loadAt T (.pointer (some ad))).run X.P w = .ok v' w ∧ RV w M β lk v' v := by
    intro hk hg
    cases cs with
    | nil => exact hg.elim
    | cons d0 r =>
      obtain ⟨rfl, rfl⟩ := hg
      refine ⟨rfl, _, run_loadAt hty w ad f (fun j hj => hc j (by rw [hty.size1 hk] at hj; simp; omega)), ?_⟩
      rw [hk]
      exact hr 0 _ rfl
  cases hkd : ti.kind <;> simp only [hkd] at hg
  · exact hone (by rw [hkd]; rfl) hg
  · exact hone (by rw [hkd]; rfl) hg
  · exact hone (by rw [hkd]; rfl) hg
  · exact hone (by rw [hkd]; rfl) hg
  · exact hagg (by rw [hkd]; rfl) hg
  · exact hagg (by rw [hkd]; rfl) hg
  · exact hone (by rw [hkd]; rfl) hg
  · exact hone (by rw [hkd]; rfl) hg

end Go.Vx
end

section
set_option linter.unusedVariables false
set_option linter.unusedSimpArgs false
namespace Go.Vx
open Go Go.RowKit

/-- what is asked of an operation that leaves the world alone -/
def Quiet (X : Ctx) (s : S) (a : Act) (w : World) (β : Nat → Value) (o : Oper) (v : AV) (u : Upd) : Prop :=
  u = [] ∧ ∃ v', (execOp a.eval o).run X.P w = .ok (.value v') w ∧ RV w (MM X (lookB · s.bx) β) β (lookB · s.bx) v' v

section
variable {X : Ctx} {s : S} {a : Act} {w : World} {β : Nat → Value} {o : Oper} {d : Nat} {bb : Box} {v : AV} {u : Upd}

theorem exec_load {t : Nat} {p : Operand} (ho : o.op = .load t p) {ρ : Operand → Value} {P : Program} {v' : Value} (h : (Instr.loadAt t (ρ p)).run P w = .ok v' w) : (execOp ρ o).run P w = .ok (.value v') w := by
  simp [execOp, ho, h]

theorem beq_val {m n : Nat} {x : R} {P : Program} {E : Env} (h : Gets P E d bb (cond (m == n) x .bad) v u) : m = n ∧ Gets P E d bb x v u := by
  cases hb : (m == n) <;> rw [hb] at h
  · exact h.elim
  · exact ⟨by simpa using hb, h⟩
theorem cond_val {t : Bool} {x : R} {P : Program} {E : Env} (h : Gets P E d bb (cond t x .bad) v u) : t = true ∧ Gets P E d bb x v u := by
  cases t
  · exact h.elim
  · exact ⟨rfl, h⟩

/-- the cells of an owned slice's element -/
theorem own_elem {M : Nat → Prop} {lk : Nat → Box} {id e ver g n c : Nat} {xs : List (List D)} (hb : BoxOK X w M β lk id (.arr e ver xs)) (hβ : β id = .slice (some ⟨g, 0, none⟩) n c) :
    ∃ te : TI, X.E e = some te ∧ 0 < te.size ∧ (∀ x ∈ xs, x.length = te.size) ∧ n = xs.length ∧ ∃ cur : Array Value, w.heap[g]? = some (.cells cur e (0, 0)) ∧ c * te.size = cur.size ∧ xs.length ≤ c ∧
      (∀ k, k < xs.length * te.size → w.cell? ⟨g, k, none⟩ = some (cur.getD k undef)) ∧
      ∀ i x j d, xs[i]? = some x → x[j]? = some d → Rp w M (cur.getD (i * te.size + j) undef) d := by
  obtain ⟨te, flat, hE, h0, hl, ho, _, hr⟩ := hb
  rw [hβ] at ho
  have hfl := ho.1
  rcases ho.2 with ⟨hv, _⟩ | ⟨g', cap, cur, hv, _, hg, hnc, _, hcs, ht⟩
  · cases hv
  · injection hv with h1 h2 h3
    injection h1 with h1
    injection h1 with h1
    subst h1; subst h3
    have hcell : ∀ k, k < xs.length * te.size → w.cell? ⟨g, k, none⟩ = some (cur.getD k undef) := fun k hk => by
      rw [cell_of_row w g k cur e (0, 0) hg]
      have : k < cur.size := by rw [hcs]; exact Nat.lt_of_lt_of_le hk (Nat.mul_le_mul_right _ hnc)
      simp [Array.getD, this]
    refine ⟨te, hE, h0, hl, h2, cur, hg, hcs.symm, hnc, hcell, fun i x j d hx hd => ?_⟩
    have hi := (List.getElem?_eq_some_iff.1 hx).1
    have hj := (List.getElem?_eq_some_iff.1 hd).1
    have hxl := hl x (List.mem_of_getElem? hx)
    have hk : i * te.size + j < xs.length * te.size := by
      have h1 : i * te.size + te.size ≤ xs.length * te.size := by
        rw [← Nat.succ_mul]; exact Nat.mul_le_mul_right _ hi
      omega
    have he : flat.getD (i * te.size + j) undef = cur.getD (i * te.size + j) undef := by
      rw [← ht]
      have hc : i * te.size + j < cur.size := by rw [hcs]; exact Nat.lt_of_lt_of_le hk (Nat.mul_le_mul_right _ hnc)
      simp [List.getD, hk, Array.getD, hc]
    rw [← he]
    exact hr i x j d hx hd

theorem add_at (g off j : Nat) : (⟨g, off, none⟩ : Addr).add j = ⟨g, off + j, none⟩ := Addr.add_lit g off j

/-- the cells of an owned slice of owned slices -/
theorem NestOK.outer_cell {M : Nat → Prop} {e : Nat} {te : TI} {e' : Nat} {te' : TI} {b : Value} {vs : Array Value} {cs : List Value} {flat : Nat → List Value} {dt : Option Nat} {rows : List (List (List D))} (h : NestOK X w M e te e' te' b vs cs flat dt rows) {g n c : Nat}
    (hb : outerV b = .slice (some ⟨g, 0, none⟩) n c) {i : Nat} (hi : i < rows.length) : w.cell? ⟨g, i * 1 + 0, none⟩ = some (cs.getD i undef) := by
  have ho := h.outer
  rw [h.val] at hb
  have hb : vs.getD 0 undef = .slice (some ⟨g, 0, none⟩) n c := hb
  have hl : cs.length = rows.length * 1 := ho.1
  have := ho.cells (g := g) (by rw [hb]; rfl) i (cs.getD i undef) (by simp [List.getD, List.getElem?_eq_getElem (show i < cs.length by omega)])
  rw [add_at] at this
  rw [show i * 1 + 0 = 0 + i by omega]
  exact this
theorem NestOK.inner_val {M : Nat → Prop} {e : Nat} {te : TI} {e' : Nat} {te' : TI} {b : Value} {vs : Array Value} {cs : List Value} {flat : Nat → List Value} {dt : Option Nat} {rows : List (List (List D))} (h : NestOK X w M e te e' te' b vs cs flat dt rows) (p : Nat) : innerV p b = vs.getD (p + 1) undef := by
  rw [h.val]; rfl
theorem NestOK.inner_cell {M : Nat → Prop} {e : Nat} {te : TI} {e' : Nat} {te' : TI} {b : Value} {vs : Array Value} {cs : List Value} {flat : Nat → List Value} {dt : Option Nat} {rows : List (List (List D))} (h : NestOK X w M e te e' te' b vs cs flat dt rows) {p g n c : Nat}
    (hp : p < rows.length) (hb : innerV p b = .slice (some ⟨g, 0, none⟩) n c) {j : Nat} (hj : j < (rows.getD p []).length * te'.size) : w.cell? ⟨g, j, none⟩ = some ((flat p).getD j undef) := by
  have hr : rows[p]? = some (rows.getD p []) := by simp [List.getD, List.getElem?_eq_getElem hp]
  have ho := h.row p _ hr
  rw [h.inner_val p] at hb
  have hl := ho.1
  have := ho.cells (g := g) (by rw [hb]; rfl) j ((flat p).getD j undef) (by simp [List.getD, List.getElem?_eq_getElem (show j < (flat p).length by omega)])
  rw [add_at, Nat.zero_add] at this
  exact this
theorem own_one {w : World} {b e s n : Nat} {v : Value} {xs : List Value} (h : w.ownsRow b e s v n xs) : v.oneCell' = true := by
  rcases h.2 with ⟨rfl, _⟩ | ⟨g, cap, cur, rfl, _⟩ <;> rfl
theorem NestOK.inner_one {M : Nat → Prop} {e : Nat} {te : TI} {e' : Nat} {te' : TI} {b : Value} {vs : Array Value} {cs : List Value} {flat : Nat → List Value} {dt : Option Nat} {rows : List (List (List D))} (h : NestOK X w M e te e' te' b vs cs flat dt rows) {p : Nat} (hp : p < rows.length) : (innerV p b).oneCell' = true := by
  rw [h.inner_val p]
  exact own_one (h.row p _ (List.getElem?_eq_getElem hp))

theorem q_load (h : Inv X s a w β) (hE : EnvOK X.P X.E) {t : Nat} {p : Operand} (ho : o.op = .load t p) (hg : Gets X.P X.E d bb (loadAV s.bx (ev s.fr p) (X.E t)) v u) : Quiet X s a w β o v u := by
  cases hT : X.E t with
  | none => rw [hT] at hg; exact hg.elim
  | some ti =>
    rw [hT] at hg
    simp only [loadAV] at hg
    have hrv := h.ev p
    cases hp : ev s.fr p <;> rw [hp] at hg hrv <;> try (exact hg.elim)
    case bp id off =>
      generalize hap : a.eval p = vp at hrv
      cases hrv with
      | bp _ _ g cs hl hb =>
        simp only [loadP] at hg
        have hbox := h.box id
        rw [hl] at hg hbox
        obtain ⟨g', el, conc, hb', _, hheap, hsz, hcells⟩ := hbox
        rw [hb] at hb'
        injection hb' with hb'
        injection hb' with hb'
        injection hb' with hb'
        subst hb'
        simp only [loadB] at hg
        obtain ⟨hu, v', hrun, hrv'⟩ := load_box (M := MM X (lookB · s.bx) β) (lk := (lookB · s.bx)) (β := β) hE hT hg ⟨g, off, none⟩ (fun j => conc.getD (off + j) undef) (fun j hj => by
          rw [add_at, cell_of_row w g (off + j) conc el (0, 0) hheap]
          have : off + j < conc.size := by rw [hsz]; rw [List.length_drop] at hj; omega
          simp [Array.getD, this]) (fun j av hj => by
          rw [List.getElem?_drop] at hj
          exact (hcells (off + j) av hj).2)
        exact ⟨hu, v', exec_load ho (by rw [hap]; exact hrun), hrv'⟩
    case op id ver i sz off =>
      generalize hap : a.eval p = vp at hrv
      cases hrv with
      | op _ _ _ _ _ _ h1 hop =>
        simp only [loadP] at hg
        have hbox := h.box id
        cases hl : lookB id s.bx <;> rw [hl] at hg hbox hop <;> try (exact hg.elim)
        case arr e v' xs =>
          simp only [loadO] at hg
          obtain ⟨hv, hi, hg⟩ := beq_val hg
          obtain ⟨hs, g, n, c, hβ, hvp⟩ := hop.2 hv.symm
          obtain ⟨te, _, h0, hlen, _, cur, _, _, _, hcell, hrp⟩ := own_elem hbox hβ
          have hxi : xs[i]? = some (xs.getD i []) := by simp [List.getD, List.getElem?_eq_getElem hi]
          have hxl := hlen _ (List.mem_of_getElem? hxi)
          have hsz : sz = te.size := by
            rw [← hs _ (List.mem_of_getElem? hxi)]; exact hxl
          subst hsz
          subst hvp
          have hii : i * te.size + te.size ≤ xs.length * te.size := by
            rw [← Nat.succ_mul]; exact Nat.mul_le_mul_right _ hi
          obtain ⟨hu, v', hrun, hrv'⟩ := load_val (M := MM X (lookB · s.bx) β) (lk := (lookB · s.bx)) (β := β) hE hT hg ⟨g, i * te.size + off, none⟩ (fun j => cur.getD (i * te.size + off + j) undef) (fun j hj => by
            rw [add_at]
            refine hcell _ ?_
            rw [List.length_drop, hxl] at hj
            omega) (fun j d hd => by
            rw [List.getElem?_drop] at hd
            have := hrp i _ (off + j) d hxi hd
            rwa [← Nat.add_assoc] at this)
          exact ⟨hu, v', exec_load ho (by rw [hap]; exact hrun), hrv'⟩
        case nest e v' r dt rows =>
          cases dt with
          | some _ => exact hg.elim
          | none =>
            simp only [loadO] at hg
            cases hc : (v' == ver && (off == 0 && !kAgg ti.kind)) <;> rw [hc] at hg
            · exact hg.elim
            · simp only [Bool.and_eq_true, beq_iff_eq, Bool.not_eq_true'] at hc
              obtain ⟨hv, h0, hk⟩ := hc
              subst h0
              obtain ⟨hi, rfl, rfl⟩ := hg
              obtain ⟨g, n, c, hβ, hvp⟩ := hop.2 hv.symm
              obtain ⟨te, e', te', vs, cs, flat, hn⟩ := hbox
              subst hvp
              have hcell := hn.outer_cell hβ hi
              rw [hn.cell i hi (by simp), ← hn.inner_val i] at hcell
              have hty := hE t ti hT
              have hrun := run_loadAt hty w ⟨g, i * 1 + 0, none⟩ (fun _ => innerV i (β id)) (fun j hj => by
                have : j = 0 := by rw [hty.size1 hk] at hj; omega
                subst this
                rw [Addr.add_zero']; exact hcell)
              rw [hk] at hrun
              refine ⟨rfl, _, exec_load ho (by rw [hap]; exact hrun), .fsl id r i _ (hn.inner_one hi) ?_⟩
              simp only [hl]
              exact ⟨Nat.le_refl _, fun _ => ⟨hi, rfl⟩⟩
    case fop id rv p' j sz off =>
      generalize hap : a.eval p = vp at hrv
      cases hrv with
      | fop _ _ _ _ _ _ _ h1 hop =>
        simp only [loadP] at hg
        have hbox := h.box id
        cases hl : lookB id s.bx <;> rw [hl] at hg hbox hop <;> try (exact hg.elim)
        case nest e v' r dt rows =>
          simp only [loadF] at hg
          obtain ⟨hv, hi, hg⟩ := beq_val hg
          obtain ⟨hpl, hs, g, n, c, hβ, hvp⟩ := hop.2 hv.symm
          obtain ⟨te, e', te', vs, cs, flat, hn⟩ := hbox
          have hr : rows[p']? = some (rows.getD p' []) := get_getD hpl
          have hx : (rows.getD p' [])[j]? = some ((rows.getD p' []).getD j []) := get_getD hi
          have hxl := hn.len _ (List.mem_of_getElem? hr) _ (List.mem_of_getElem? hx)
          have hsz : sz = te'.size := by rw [← hs _ (List.mem_of_getElem? hx)]; exact hxl
          subst hsz
          subst hvp
          have hii : j * te'.size + te'.size ≤ (rows.getD p' []).length * te'.size := by
            rw [← Nat.succ_mul]; exact Nat.mul_le_mul_right _ hi
          obtain ⟨hu, v', hrun, hrv'⟩ := load_val (M := MM X (lookB · s.bx) β) (lk := (lookB · s.bx)) (β := β) hE hT hg ⟨g, j * te'.size + off, none⟩ (fun k => (flat p').getD (j * te'.size + off + k) undef) (fun k hk => by
            rw [add_at]
            refine hn.inner_cell hpl hβ ?_
            rw [List.length_drop, hxl] at hk
            omega) (fun k d hd => by
            rw [List.getElem?_drop] at hd
            have := hn.at_ p' _ hr j _ (off + k) d hx hd
            rwa [← Nat.add_assoc] at this)
          exact ⟨hu, v', exec_load ho (by rw [hap]; exact hrun), hrv'⟩
    case ip ds =>
      generalize hap : a.eval p = vp at hrv
      cases hrv with
      | ip ad _ cell hb hM hcell hr =>
        simp only [loadP] at hg
        obtain ⟨hu, v', hrun, hrv'⟩ := load_val (M := MM X (lookB · s.bx) β) (lk := (lookB · s.bx)) (β := β) hE hT hg ad cell hcell hr
        exact ⟨hu, v', exec_load ho (by rw [hap]; exact hrun), hrv'⟩

theorem q_move (h : Inv X s a w β) {x : Operand} (ho : o.op = .move x ∨ o.op = .assign x) (hg : Gets X.P X.E d bb (.val (ev s.fr x) []) v u) : Quiet X s a w β o v u := by
  obtain ⟨rfl, rfl⟩ := hg
  exact ⟨rfl, _, by rcases ho with ho | ho <;> simp [execOp, ho], h.ev x⟩

theorem q_pick (h : Inv X s a w β) {c x y : Operand} (ho : o.op = .pick c x y) (hg : Gets X.P X.E d bb (pickR (ev s.fr x) (ev s.fr y) (ev s.fr c)) v u) : Quiet X s a w β o v u := by
  have hc := h.ev c
  unfold pickR at hg
  split at hg
  · rename_i t hct
    rw [hct] at hc
    have hcv : a.eval c = .bool t := by
      have := hc.to_c
      generalize a.eval c = vc at this ⊢
      cases this; rfl
    rcases hg with ⟨rfl, rfl, rfl⟩ | ⟨rfl, rfl, rfl⟩
    · exact ⟨rfl, _, by simp [execOp, ho, hcv, asBool], h.ev x⟩
    · exact ⟨rfl, _, by simp [execOp, ho, hcv, asBool], h.ev y⟩
  · exact hg.elim

theorem eval_sc (h : Inv X s a w β) {x : Operand} {c : Value} (hx : ev s.fr x = .c (.sc c)) : a.eval x = c := by
  have := h.ev x
  rw [hx] at this
  have := this.to_c
  generalize a.eval x = vx at this ⊢
  cases this; rfl

theorem rv_sc {M : Nat → Prop} {lk : Nat → Box} {c : Value} (h : c.oneCell' = true) : RV w M β lk c (.c (.sc c)) := .c _ _ (.sc _ h)

theorem q_not (h : Inv X s a w β) {t : Nat} {x : Operand} (ho : o.op = .unOp .not t x) (hg : Gets X.P X.E d bb (notR (ev s.fr x)) v u) : Quiet X s a w β o v u := by
  unfold notR at hg
  split at hg
  · rename_i t hx
    obtain ⟨rfl, rfl⟩ := hg
    exact ⟨rfl, .bool (!t), by simp [execOp, ho, eval_sc h hx, Op.unary], rv_sc rfl⟩
  · exact hg.elim

theorem q_ext (h : Inv X s a w β) {x : Operand} {i : Nat} (ho : o.op = .extract x i) (hg : Gets X.P X.E d bb (extR i (ev s.fr x)) v u) : Quiet X s a w β o v u := by
  have hx := h.ev x
  unfold extR at hg
  split at hg
  · rename_i vs hvs
    rw [hvs] at hx
    generalize hax : a.eval x = vx at hx
    cases hx with
    | tp arr _ hs hr =>
      cases hd : vs.drop i with
      | nil => rw [hd] at hg; exact hg.elim
      | cons v0 r =>
        rw [hd] at hg
        obtain ⟨rfl, rfl⟩ := hg
        have hi : vs[i]? = some v := by
          have : (vs.drop i)[0]? = some v := by rw [hd]; rfl
          simpa using this
        have hlt : i < arr.size := by
          rw [hs]; exact (List.getElem?_eq_some_iff.1 hi).1
        refine ⟨rfl, arr.getD i undef, ?_, hr i v hi⟩
        simp [execOp, ho, hax, Instr.extract, hlt, Array.getD]
  · exact hg.elim

theorem q_chk (h : Inv X s a w β) {x : Operand} (ho : o.op = .nilCheck x) (hg : Gets X.P X.E d bb (chkA s.bx (ev s.fr x)) v u) : Quiet X s a w β o v u := by
  have hx := h.ev x
  have hfin : ∀ vx, a.eval x = vx → RV w (MM X (lookB · s.bx) β) β (lookB · s.bx) vx v → (∃ ad, vx = .pointer (some ad)) ∨ (∃ f c, vx = .func (.func f) #[] c) → (execOp a.eval o).run X.P w = .ok (.value vx) w := by
    intro vx hax _ hc
    rcases hc with ⟨ad, rfl⟩ | ⟨f, c, rfl⟩ <;> simp [execOp, ho, hax]
  unfold chkA at hg
  split at hg
  · rename_i id ver i sz off hv
    unfold chkO at hg
    split at hg
    · rename_i e v' xs hl
      cases hvv : (v' == ver) with
      | false => rw [hvv] at hg; exact hg.elim
      | true =>
        rw [hvv] at hg
        obtain ⟨rfl, rfl⟩ := hg
        rw [hv] at hx
        refine ⟨rfl, _, hfin _ rfl hx ?_, hx⟩
        have hve : v' = ver := by simpa using hvv
        generalize a.eval x = vx at hx
        cases hx with
        | op _ _ _ _ _ _ h1 h2 =>
          simp only [hl, OpOK] at h2
          obtain ⟨_, g, n, c, _, h3⟩ := h2.2 hve.symm
          exact .inl ⟨_, h3⟩
    · exact hg.elim
  unfold chkR at hg
  split at hg
  · rename_i id off hv
    obtain ⟨rfl, rfl⟩ := hg
    rw [hv] at hx
    refine ⟨rfl, _, hfin _ rfl hx ?_, hx⟩
    generalize a.eval x = vx at hx
    cases hx; exact .inl ⟨_, rfl⟩
  · exact hg.elim
  · rename_i ds hv
    obtain ⟨rfl, rfl⟩ := hg
    rw [hv] at hx
    refine ⟨rfl, _, hfin _ rfl hx ?_, hx⟩
    generalize a.eval x = vx at hx
    cases hx; exact .inl ⟨_, rfl⟩
  · rename_i f cs hv
    obtain ⟨rfl, rfl⟩ := hg
    rw [hv] at hx
    refine ⟨rfl, _, hfin _ rfl hx ?_, hx⟩
    generalize a.eval x = vx at hx
    cases hx; exact .inr ⟨_, _, rfl⟩
  · exact hg.elim

end
end Go.Vx
end

section
set_option linter.unusedVariables false
set_option linter.unusedSimpArgs false
namespace Go.Vx
open Go Go.RowKit

section
variable {P : Program} {E : Env}
theorem KindOK.slice {T e : Nat} {ti : TI} (h : TyOK P E T ti) (hk : ti.kind = .slice e) : P.underlying T = some (.slice e) ∧ ti.size = 1 ∧ ∃ te, E e = some te ∧ 0 < te.size ∧ 0 < te.bytes := by
  have := h.kind; unfold KindOK at this; rw [hk] at this; exact this
theorem KindOK.array {T n e : Nat} {ti : TI} (h : TyOK P E T ti) (hk : ti.kind = .array n e) : P.underlying T = some (.array n e) ∧ P.eqGuardType P.depth T = false ∧ ∃ te, E e = some te ∧ 0 < te.size ∧ ti.size = n * te.size := by
  have := h.kind; unfold KindOK at this; rw [hk] at this; exact this
theorem KindOK.struct {T : Nat} {fs : List (Nat × Nat)} {ti : TI} (h : TyOK P E T ti) (hk : ti.kind = .struct fs) :
    ∃ fields, P.underlying T = some (.struct fields) ∧ FieldsOK E ti.size fields.toList fs ∧ P.stoodInHeld T = false ∧ P.eqGuardType P.depth T = false := by
  have := h.kind; unfold KindOK at this; rw [hk] at this; exact this
theorem KindOK.int {T : Nat} {k : IntKind} {ti : TI} (h : TyOK P E T ti) (hk : ti.kind = .int k) : P.underlying T = some (.int k) ∧ ti.size = 1 := by
  have := h.kind; unfold KindOK at this; rw [hk] at this; exact this
theorem KindOK.map {T k e : Nat} {ti : TI} (h : TyOK P E T ti) (hk : ti.kind = .map k e) : P.underlying T = some (.map k e) ∧ ti.size = 1 := by
  have := h.kind; unfold KindOK at this; rw [hk] at this; exact this
theorem KindOK.str {T : Nat} {ti : TI} (h : TyOK P E T ti) (hk : ti.kind = .str) : P.underlying T = some .string ∧ ti.size = 1 := by
  have := h.kind; unfold KindOK at this; rw [hk] at this; exact this
theorem KindOK.bool {T : Nat} {ti : TI} (h : TyOK P E T ti) (hk : ti.kind = .bool) : P.underlying T = some .bool ∧ ti.size = 1 := by
  have := h.kind; unfold KindOK at this; rw [hk] at this; exact this
theorem TyOK.und {T : Nat} {ti : TI} (h : TyOK P E T ti) : ∃ d, P.underlying T = some d := by
  have := h.kind
  unfold KindOK at this
  cases hk : ti.kind <;> simp only [hk] at this
  · obtain ⟨d, h1, _⟩ := this; exact ⟨d, h1⟩
  · exact ⟨_, this.1⟩
  · exact ⟨_, this.1⟩
  · exact ⟨_, this.1⟩
  · obtain ⟨f, h1, _⟩ := this; exact ⟨_, h1⟩
  · exact ⟨_, this.1⟩
  · exact ⟨_, this.1⟩
  · exact ⟨_, this.1⟩

theorem run_index_slice {t e sz : Nat} {w : World} (hu : P.underlying t = some (.slice e)) (hsz : (sizeOf e).run P w = .ok sz w) (ad : Addr) (len cap : Nat) (k : IntKind) (i : Int) (h0 : 0 ≤ i) (h1 : i < len) :
    (Instr.indexAt t (.slice (some ad) len cap) (.int k i)).run P w = .ok (.pointer (some (ad.add (i.toNat * sz)))) w := by
  simp [Instr.indexAt, run_underlying hu, asIntOf, h0, h1, hsz]
theorem run_index_array {t e sz n : Nat} {w : World} (hu : P.underlying t = some (.array n e)) (hsz : (sizeOf e).run P w = .ok sz w) (ad : Addr) (k : IntKind) (i : Int) (h0 : 0 ≤ i) (h1 : i < n) :
    (Instr.indexAt t (.pointer (some ad)) (.int k i)).run P w = .ok (.pointer (some (ad.add (i.toNat * sz)))) w := by
  simp [Instr.indexAt, Instr.sureAddr, run_underlying hu, asIntOf, h0, h1, hsz]
end

section
variable {X : Ctx} {s : S} {a : Act} {w : World} {β : Nat → Value} {o : Oper} {d : Nat} {bb : Box} {v : AV} {u : Upd}

/-- an element of a slice by value -/
theorem sl_elem {M : Nat → Prop} {lk : Nat → Box} {vx : Value} {xs : List (List D)} {n sz : Nat} (h : Rp w M vx (.sl xs)) (hn : n < xs.length) (hsz : (xs.getD n []).length = sz) :
    ∃ ad c, vx = .slice (some ad) xs.length c ∧ RV w M β lk (.pointer (some (ad.add (n * sz)))) (.ip (xs.getD n [])) := by
  cases h with
  | sl A c size _ cell hc hm h0 hl hA hr =>
    have hne : xs ≠ [] := by rintro rfl; simp at hn
    obtain ⟨ad, rfl, hM, hcell⟩ := hA hne
    have hxi : xs[n]? = some (xs.getD n []) := by simp [List.getD, List.getElem?_eq_getElem hn]
    have hlen := hl _ (List.mem_of_getElem? hxi)
    have hss : sz = size := by rw [← hsz]; exact hlen
    subst hss
    have hnn : n * sz + sz ≤ xs.length * sz := by rw [← Nat.succ_mul]; exact Nat.mul_le_mul_right _ hn
    refine ⟨ad, c, rfl, .ip _ _ (fun j => cell (n * sz + j)) ?_ ?_ (fun j hj => ?_) (fun j d hd => hr n _ j d hxi hd)⟩
    · have := World.block_lt_of_cell? w _ (hcell 0 (by omega))
      rw [block_of_add] at this ⊢; exact this
    · rw [block_of_add]; exact hM
    · rw [add_of_add]; exact hcell _ (by omega)

theorem q_index (h : Inv X s a w β) (hE : EnvOK X.P X.E) {t : Nat} {x i : Operand} (ho : o.op = .indexAddr t x i) (hg : Gets X.P X.E d bb (indexAddrAV X.E s.bx (ev s.fr x) (ev s.fr i) (X.E t)) v u) : Quiet X s a w β o v u := by
  cases hT : X.E t with
  | none => rw [hT] at hg; exact hg.elim
  | some ti =>
    rw [hT] at hg
    simp only [indexAddrAV] at hg
    have hty := hE t ti hT
    have hx := h.ev x
    have hex : ∀ v', (Instr.indexAt t (a.eval x) (a.eval i)).run X.P w = .ok v' w → (execOp a.eval o).run X.P w = .ok (.value v') w := fun v' hv => by simp [execOp, ho, hv]
    cases hk : ti.kind <;> rw [hk] at hg <;> try (exact hg.elim)
    case slice e =>
      obtain ⟨hu, _, te, hEe, hte0, _⟩ := KindOK.slice hty hk
      simp only [indexK, hEe, indexE] at hg
      have hsz := (hE e te hEe).size_run w
      unfold indexI at hg
      split at hg
      · rename_i k n hi
        have hiv := eval_sc h hi
        unfold indexX at hg
        split at hg
        · rename_i xs hxs
          rw [hxs] at hx
          obtain ⟨⟨h0, h1, h2⟩, rfl, rfl⟩ := hg
          obtain ⟨ad, c, hv, hrv⟩ := sl_elem (β := β) (lk := (lookB · s.bx)) hx.to_c h1 h2
          refine ⟨rfl, _, hex _ ?_, hrv⟩
          rw [hv, hiv]
          exact run_index_slice hu hsz ad _ c k n h0 (by omega)
        · rename_i id ver hxs
          rw [hxs] at hx
          obtain ⟨h0, hg⟩ := hg
          generalize hax : a.eval x = vx at hx
          cases hx with
          | osl _ _ _ h1 hok =>
            have hbox := h.box id
            cases hl : lookB id s.bx <;> simp only [hl, indexB] at hg <;> try (exact hg.elim)
            case arr e' v' xs =>
              obtain ⟨hvv, ⟨hn, hlen⟩, rfl, rfl⟩ := beq_val hg
              rw [hl] at hok hbox
              have hvx := hok.2 hvv.symm
              have hbox' := hbox
              obtain ⟨te', flat, hEe', _, hlx, hown, _, _⟩ := hbox
              rcases hown.2 with ⟨_, hz⟩ | ⟨g, cap, cur, hβ, _⟩
              · omega
              · have hxi : xs[n.toNat]? = some (xs.getD n.toNat []) := by simp [List.getD, List.getElem?_eq_getElem hn]
                have hts : te'.size = te.size := by rw [← hlx _ (List.mem_of_getElem? hxi)]; exact hlen
                refine ⟨rfl, .pointer (some ⟨g, n.toNat * te.size + 0, none⟩), hex _ ?_, .op _ _ _ _ _ _ rfl ?_⟩
                · rw [hax, hvx, hβ, hiv, run_index_slice hu hsz _ _ cap k n h0 (by omega), add_at]
                  simp
                · show OpOK (lookB id s.bx) _ _ _ _ _ _
                  rw [hl]
                  exact ⟨by omega, fun _ => ⟨fun x hx => by rw [hlx x hx, hts], g, _, cap, hβ, rfl⟩⟩
            case frz v' xs =>
              obtain ⟨hvv, ⟨hn, hlen⟩, rfl, rfl⟩ := beq_val hg
              rw [hl] at hok hbox
              have hvx := hok.2 hvv.symm
              obtain ⟨ad, c, hv, hrv⟩ := sl_elem (β := β) (lk := (lookB · s.bx)) (show Rp w _ (outerV (β id)) (.sl xs) from hbox) hn hlen
              refine ⟨rfl, _, hex _ ?_, hrv⟩
              rw [hax, hvx, hv, hiv]
              exact run_index_slice hu hsz ad _ c k n h0 (by omega)
            case nest e' v' r dt rows =>
              obtain ⟨hvv, ⟨hn, hlen⟩, rfl, rfl⟩ := beq_val hg
              rw [hl] at hok hbox
              have hvx := hok.2 hvv.symm
              obtain ⟨te', e2, te2, vs, cs, flat, hnest⟩ := hbox
              have hov : outerV (β id) = vs.getD 0 undef := by rw [hnest.val]; rfl
              rcases hnest.outer.2 with ⟨_, hz⟩ | ⟨g, cap, cur, hβ, _⟩
              · omega
              · rw [← hov] at hβ
                refine ⟨rfl, .pointer (some ⟨g, n.toNat * te.size + 0, none⟩), hex _ ?_, .op _ _ _ _ _ _ rfl ?_⟩
                · rw [hax, hvx, hβ, hiv, run_index_slice hu hsz _ _ cap k n h0 (by omega), add_at]
                  simp
                · show OpOK (lookB id s.bx) _ _ _ _ _ _
                  rw [hl, hlen]
                  exact ⟨by omega, fun _ => ⟨g, _, cap, hβ, rfl⟩⟩
        · rename_i id rv p hxs
          rw [hxs] at hx
          obtain ⟨h0, hg⟩ := hg
          generalize hax : a.eval x = vx at hx
          cases hx with
          | fsl _ _ _ _ h1 hok =>
            have hbox := h.box id
            cases hl : lookB id s.bx <;> simp only [hl, indexF] at hg <;> try (exact hg.elim)
            case nest e' v' r dt rows =>
              obtain ⟨hvv, ⟨hn, hlen⟩, rfl, rfl⟩ := beq_val hg
              rw [hl] at hok hbox
              obtain ⟨hpl, hvx⟩ := hok.2 hvv.symm
              obtain ⟨te', e2, te2, vs, cs, flat, hnest⟩ := hbox
              have hr : rows[p]? = some (rows.getD p []) := get_getD hpl
              have hts : te2.size = te.size := by rw [← hnest.len _ (List.mem_of_getElem? hr) _ (List.mem_of_getElem? (get_getD hn))]; exact hlen
              have hiv' := hnest.inner_val p
              rcases (hnest.row p _ hr).2 with ⟨_, hz⟩ | ⟨g, cap, cur, hβ, _⟩
              · omega
              · rw [← hiv'] at hβ
                refine ⟨rfl, .pointer (some ⟨g, n.toNat * te.size + 0, none⟩), hex _ ?_, .fop _ _ _ _ _ _ _ rfl ?_⟩
                · rw [hax, hvx, hβ, hiv, run_index_slice hu hsz _ _ cap k n h0 (by omega), add_at]
                  simp
                · show FopOK (lookB id s.bx) _ _ _ _ _ _ _
                  rw [hl]
                  exact ⟨by omega, fun _ => ⟨hpl, fun x hx => by rw [hnest.len _ (List.mem_of_getElem? hr) x hx, hts], g, _, cap, hβ, rfl⟩⟩
        · exact hg.elim
      · exact hg.elim
    case array m e =>
      obtain ⟨hu, _, te, hEe, hte0, _⟩ := KindOK.array hty hk
      simp only [indexK, hEe, indexAE] at hg
      have hsz := (hE e te hEe).size_run w
      unfold indexAI at hg
      split at hg
      · rename_i k n hi
        have hiv := eval_sc h hi
        unfold indexAP at hg
        split at hg
        · rename_i id off hxs
          rw [hxs] at hx
          obtain ⟨⟨h0, h1⟩, rfl, rfl⟩ := hg
          generalize hax : a.eval x = vx at hx
          cases hx with
          | bp _ _ g cs hl hb =>
            refine ⟨rfl, .pointer (some ⟨g, off + n.toNat * te.size, none⟩), hex _ ?_, .bp _ _ g cs hl hb⟩
            rw [hax, hiv, run_index_array hu hsz _ k n h0 (by omega), add_at]
        · rename_i id ver i' es off hxs
          rw [hxs] at hx
          generalize hax : a.eval x = vx at hx
          cases hx with
          | op _ _ _ _ _ _ h1' hok =>
            cases hl : lookB id s.bx <;> rw [hl] at hok hg <;> try (exact hg.elim)
            case arr e' v' xs =>
              · obtain ⟨hvv, ⟨h0, h1⟩, rfl, rfl⟩ := beq_val hg
                obtain ⟨hs, g, n', c, hβ, hvx⟩ := hok.2 hvv.symm
                refine ⟨rfl, .pointer (some ⟨g, i' * es + off + n.toNat * te.size, none⟩), hex _ ?_, .op _ _ _ _ _ _ rfl ?_⟩
                · rw [hax, hvx, hiv, run_index_array hu hsz _ k n h0 (by omega), add_at]
                · show OpOK (lookB id s.bx) _ _ _ _ _ _
                  rw [hl]
                  exact ⟨hok.1, fun _ => ⟨hs, g, n', c, hβ, by rw [Nat.add_assoc]⟩⟩
        · rename_i ds hxs
          rw [hxs] at hx
          obtain ⟨⟨h0, h1⟩, rfl, rfl⟩ := hg
          generalize hax : a.eval x = vx at hx
          cases hx with
          | ip ad _ cell hb hM hcell hr =>
            refine ⟨rfl, .pointer (some (ad.add (n.toNat * te.size))), hex _ ?_, ?_⟩
            · rw [hax, hiv, run_index_array hu hsz _ k n h0 (by omega)]
            · refine .ip _ _ (fun j => cell (n.toNat * te.size + j)) (by rw [block_of_add]; exact hb) (by rw [block_of_add]; exact hM) (fun j hj => ?_) fun j d hd => ?_
              · rw [List.length_drop] at hj
                rw [add_of_add]; exact hcell _ (by omega)
              · rw [List.getElem?_drop] at hd
                exact hr _ d hd
        · exact hg.elim
      · exact hg.elim


theorem fields_at {E : Env} {n : Nat} {fields : Array Field} {fs : List (Nat × Nat)} {f : Nat} {p : Nat × Nat} (h : FieldsOK E n fields.toList fs) (hp : fs[f]? = some p) :
    ∃ fld, fields[f]? = some fld ∧ fld.offset = p.1 ∧ fld.type = p.2 ∧ ∃ ti, E p.2 = some ti ∧ 0 < ti.size ∧ p.1 + ti.size ≤ n := by
  obtain ⟨h1, h2⟩ := h
  rw [← h1, List.getElem?_map] at hp
  cases hf : fields.toList[f]? with
  | none => rw [hf] at hp; cases hp
  | some fld =>
    rw [hf] at hp
    simp only [Option.map_some, Option.some.injEq] at hp
    subst hp
    exact ⟨fld, by simpa using hf, rfl, rfl, (h2 fld (List.mem_of_getElem? hf)).2⟩

theorem q_field (h : Inv X s a w β) (hE : EnvOK X.P X.E) {t f : Nat} {x : Operand} (ho : o.op = .fieldAddr t x f) (hg : Gets X.P X.E d bb (fieldAddrAV s.bx (ev s.fr x) f (X.E t)) v u) : Quiet X s a w β o v u := by
  cases hT : X.E t with
  | none => rw [hT] at hg; exact hg.elim
  | some ti =>
    rw [hT] at hg
    simp only [fieldAddrAV] at hg
    have hty := hE t ti hT
    have hx := h.ev x
    cases hk : ti.kind <;> rw [hk] at hg <;> try (exact hg.elim)
    case struct fs =>
      obtain ⟨fields, hu, hfs, _, _⟩ := KindOK.struct hty hk
      simp only [fieldK] at hg
      cases hf : fs[f]? with
      | none => rw [hf] at hg; exact hg.elim
      | some p =>
        rw [hf] at hg
        simp only [fieldF] at hg
        obtain ⟨fld, hfld, hoff, hty', fti, hfe, hf0, _⟩ := fields_at hfs hf
        have hszr := (hE p.2 fti hfe).size_run w
        have hex : ∀ ad : Addr, a.eval x = .pointer (some ad) → (execOp a.eval o).run X.P w = .ok (.value (.pointer (some (ad.add p.1)))) w := fun ad hax => by
          have hne : ¬ fti.size = 0 := by omega
          simp [execOp, ho, hax, Instr.fieldAt, run_underlying hu, hfld, Instr.sureAddr, fieldPlace, hty', hszr, hne, hoff]
        unfold fieldP at hg
        split at hg
        · rename_i ds hxs
          rw [hxs] at hx
          obtain ⟨rfl, rfl⟩ := hg
          generalize hax : a.eval x = vx at hx
          cases hx with
          | ip ad _ cell hb hM hcell hr =>
            refine ⟨rfl, _, hex ad hax, .ip _ _ (fun j => cell (p.1 + j)) (by rw [block_of_add]; exact hb) (by rw [block_of_add]; exact hM) (fun j hj => ?_) fun j d hd => ?_⟩
            · rw [List.length_drop] at hj
              rw [add_of_add]; exact hcell _ (by omega)
            · rw [List.getElem?_drop] at hd
              exact hr _ d hd
        · rename_i id off hxs
          rw [hxs] at hx
          obtain ⟨rfl, rfl⟩ := hg
          generalize hax : a.eval x = vx at hx
          cases hx with
          | bp _ _ g cs hl hb =>
            have := hex _ hax
            rw [add_at] at this
            exact ⟨rfl, _, this, .bp _ _ g cs hl hb⟩
        · rename_i id ver i es off hxs
          rw [hxs] at hx
          generalize hax : a.eval x = vx at hx
          cases hx with
          | op _ _ _ _ _ _ h1' hok =>
            cases hl : lookB id s.bx <;> rw [hl] at hok hg <;> try (exact hg.elim)
            case arr e' v' xs =>
              obtain ⟨hvv, rfl, rfl⟩ := beq_val hg
              obtain ⟨hs, g, n', c, hβ, hvx⟩ := hok.2 hvv.symm
              have := hex _ (hax.trans hvx)
              rw [add_at] at this
              refine ⟨rfl, _, this, .op _ _ _ _ _ _ rfl ?_⟩
              show OpOK (lookB id s.bx) _ _ _ _ _ _
              rw [hl]
              exact ⟨hok.1, fun _ => ⟨hs, g, n', c, hβ, by rw [Nat.add_assoc]⟩⟩
        · exact hg.elim

/-- a part of a struct by value -/
theorem part_val {X : Ctx} (hE : EnvOK X.P X.E) {w : World} {β : Nat → Value} {M : Nat → Prop} {lk : Nat → Box} {T d : Nat} {ti : TI} {bb : Box} (hT : X.E T = some ti) {ds : List D} {off : Nat} {v : AV} {u : Upd}
    (hg : Gets X.P X.E d bb (loadD ti (ds.drop off)) v u) (cs : Array Value) (hs : cs.size = ds.length) (hr : ∀ j d, ds[j]? = some d → Rp w M (cs.getD j undef) d) :
    u = [] ∧ ∃ v', (part T cs off).run X.P w = .ok v' w ∧ RV w M β lk v' v := by
  have hty := hE T ti hT
  unfold loadD at hg
  have hagg : ∀ (hk : kAgg ti.kind = true), Gets X.P X.E d bb (agR ti.size (some ((ds.drop off).take ti.size))) v u → u = [] ∧ ∃ v', (part T cs off).run X.P w = .ok v' w ∧ RV w M β lk v' v := by
    intro hk hg
    simp only [agR] at hg
    obtain ⟨hl, rfl, rfl⟩ := beq_val hg
    rw [List.length_take, List.length_drop] at hl
    have hpos := hty.pos
    refine ⟨rfl, .agg (cs.extract off (off + ti.size)), by simp [part, hty.agg_run, hk, hty.size_run], .ag _ _ (by simp; omega) fun j d hd => ?_⟩
    rw [List.getElem?_take] at hd
    split at hd
    · rename_i hj
      rw [List.getElem?_drop] at hd
      have h1 := hr _ d hd
      have hlt : off + j < cs.size := by rw [hs]; exact (List.getElem?_eq_some_iff.1 hd).1
      have e : (cs.extract off (off + ti.size)).getD j undef = cs.getD (off + j) undef := by
        have : j < (cs.extract off (off + ti.size)).size := by simp; omega
        simp only [Array.getD, this, hlt, dif_pos]
        simp
      rw [e]; exact h1
    · cases hd
  have hone : ∀ (hk : kAgg ti.kind = false), Gets X.P X.E d bb (headR (ds.drop off)) v u → u = [] ∧ ∃ v', (part T cs off).run X.P w = .ok v' w ∧ RV w M β lk v' v := by
    intro hk hg
    cases hd : ds.drop off with
    | nil => rw [hd] at hg; exact hg.elim
    | cons d0 r =>
      rw [hd] at hg
      obtain ⟨rfl, rfl⟩ := hg
      have h0 : ds[off]? = some d0 := by
        have : (ds.drop off)[0]? = some d0 := by rw [hd]; rfl
        simpa using this
      have hlt : off < cs.size := by rw [hs]; exact (List.getElem?_eq_some_iff.1 h0).1
      refine ⟨rfl, cs.getD off undef, ?_, .c _ _ (hr off _ h0)⟩
      simp [part, hty.agg_run, hk, hlt, Array.getD]
  cases hkd : ti.kind <;> simp only [hkd] at hg
  · exact hone (by rw [hkd]; rfl) hg
  · exact hone (by rw [hkd]; rfl) hg
  · exact hone (by rw [hkd]; rfl) hg
  · exact hone (by rw [hkd]; rfl) hg
  · exact hagg (by rw [hkd]; rfl) hg
  · exact hagg (by rw [hkd]; rfl) hg
  · exact hone (by rw [hkd]; rfl) hg
  · exact hone (by rw [hkd]; rfl) hg

theorem part_valC {X : Ctx} (hE : EnvOK X.P X.E) {w : World} {β : Nat → Value} {M : Nat → Prop} {lk : Nat → Box} {T d : Nat} {ti : TI} {bb : Box} (hT : X.E T = some ti) {ds : List AV} {off : Nat} {v : AV} {u : Upd}
    (hg : Gets X.P X.E d bb (loadC ti (ds.drop off)) v u) (cs : Array Value) (hs : cs.size = ds.length) (hr : ∀ j d, ds[j]? = some d → RV w M β lk (cs.getD j undef) d) :
    u = [] ∧ ∃ v', (part T cs off).run X.P w = .ok v' w ∧ RV w M β lk v' v := by
  have hty := hE T ti hT
  unfold loadC at hg
  have hagg : ∀ (hk : kAgg ti.kind = true), Gets X.P X.E d bb (agcR ti.size ((ds.drop off).take ti.size) (allD ((ds.drop off).take ti.size))) v u → u = [] ∧ ∃ v', (part T cs off).run X.P w = .ok v' w ∧ RV w M β lk v' v := by
    intro hk hg
    have hpos := hty.pos
    have key : ((ds.drop off).take ti.size).length = ti.size → ∀ (j : Nat) d, ((ds.drop off).take ti.size)[j]? = some d → RV w M β lk ((cs.extract off (off + ti.size)).getD j undef) d := fun hl j d hd => by
      rw [List.length_take, List.length_drop] at hl
      rw [List.getElem?_take] at hd
      split at hd
      · rename_i hj
        rw [List.getElem?_drop] at hd
        have h1 := hr _ d hd
        have hlt : off + j < cs.size := by rw [hs]; exact (List.getElem?_eq_some_iff.1 hd).1
        have e : (cs.extract off (off + ti.size)).getD j undef = cs.getD (off + j) undef := by
          have : j < (cs.extract off (off + ti.size)).size := by simp; omega
          simp only [Array.getD, this, hlt, dif_pos]
          simp
        rw [e]; exact h1
      · cases hd
    have hrun : (part T cs off).run X.P w = .ok (.agg (cs.extract off (off + ti.size))) w := by simp [part, hty.agg_run, hk, hty.size_run]
    cases ha : allD ((ds.drop off).take ti.size) with
    | none =>
      rw [ha] at hg
      simp only [agcR] at hg
      cases hl : (((ds.drop off).take ti.size).length == ti.size && cellsTop ((ds.drop off).take ti.size)) <;> rw [hl] at hg
      · exact hg.elim
      · obtain ⟨rfl, rfl⟩ := hg
        simp only [Bool.and_eq_true, beq_iff_eq] at hl
        have hk2 := key hl.1
        have hl1 := hl.1
        rw [List.length_take, List.length_drop] at hl1
        exact ⟨rfl, _, hrun, .agv _ _ (by rw [hl.1]; simp; omega) (fun j av hj => (hk2 j av hj).oneCell (cellsTop_at hl.2 j av hj)) hk2⟩
    | some ds' =>
      rw [ha] at hg
      simp only [agcR, agR] at hg
      obtain ⟨hl, rfl, rfl⟩ := beq_val hg
      have hcs := allD_some ha
      have hl2 : ((ds.drop off).take ti.size).length = ti.size := by rw [hcs, List.length_map]; exact hl
      have hk2 := key hl2
      have hl1 := hl2
      rw [List.length_take, List.length_drop] at hl1
      exact ⟨rfl, _, hrun, .ag _ _ (by rw [hl]; simp; omega) fun j d hd => (hk2 j (.c d) (by rw [hcs, List.getElem?_map, hd]; rfl)).to_c⟩
  have hone : ∀ (hk : kAgg ti.kind = false), Gets X.P X.E d bb (headA (ds.drop off)) v u → u = [] ∧ ∃ v', (part T cs off).run X.P w = .ok v' w ∧ RV w M β lk v' v := by
    intro hk hg
    cases hd : ds.drop off with
    | nil => rw [hd] at hg; exact hg.elim
    | cons d0 r =>
      rw [hd] at hg
      obtain ⟨rfl, rfl⟩ := hg
      have h0 : ds[off]? = some v := by
        have : (ds.drop off)[0]? = some v := by rw [hd]; rfl
        simpa using this
      have hlt : off < cs.size := by rw [hs]; exact (List.getElem?_eq_some_iff.1 h0).1
      refine ⟨rfl, cs.getD off undef, ?_, hr off _ h0⟩
      simp [part, hty.agg_run, hk, hlt, Array.getD]
  cases hkd : ti.kind <;> simp only [hkd] at hg
  · exact hone (by rw [hkd]; rfl) hg
  · exact hone (by rw [hkd]; rfl) hg
  · exact hone (by rw [hkd]; rfl) hg
  · exact hone (by rw [hkd]; rfl) hg
  · exact hagg (by rw [hkd]; rfl) hg
  · exact hagg (by rw [hkd]; rfl) hg
  · exact hone (by rw [hkd]; rfl) hg
  · exact hone (by rw [hkd]; rfl) hg

theorem q_fieldv (h : Inv X s a w β) (hE : EnvOK X.P X.E) {t f : Nat} {x : Operand} (ho : o.op = .field t x f) (hg : Gets X.P X.E d bb (fieldAV X.E (ev s.fr x) f (X.E t)) v u) : Quiet X s a w β o v u := by
  cases hT : X.E t with
  | none => rw [hT] at hg; exact hg.elim
  | some ti =>
    rw [hT] at hg
    simp only [fieldAV] at hg
    have hty := hE t ti hT
    have hx := h.ev x
    cases hk : ti.kind <;> rw [hk] at hg <;> try (exact hg.elim)
    case struct fs =>
      obtain ⟨fields, hu, hfs, _, _⟩ := KindOK.struct hty hk
      simp only [fieldVK] at hg
      cases hf : fs[f]? with
      | none => rw [hf] at hg; exact hg.elim
      | some p =>
        rw [hf] at hg
        simp only [fieldVF] at hg
        obtain ⟨fld, hfld, hoff, hty', fti, hfe, hf0, _⟩ := fields_at hfs hf
        rw [hfe] at hg
        unfold fieldVA at hg
        split at hg
        · rename_i ds hxs
          rw [hxs] at hx
          generalize hax : a.eval x = vx at hx
          cases hx with
          | ag cs _ hs hr =>
            obtain ⟨hu', v', hrun, hrv⟩ := part_val (β := β) (lk := (lookB · s.bx)) hE hfe hg cs hs hr
            exact ⟨hu', v', by simp [execOp, ho, hax, Instr.field, run_underlying hu, hfld, asAgg, hty', hoff, hrun], hrv⟩
        · rename_i vs hxs
          rw [hxs] at hx
          generalize hax : a.eval x = vx at hx
          cases hx with
          | agv cs _ hs _ hr =>
            obtain ⟨hu', v', hrun, hrv⟩ := part_valC (β := β) (lk := (lookB · s.bx)) hE hfe hg cs hs hr
            exact ⟨hu', v', by simp [execOp, ho, hax, Instr.field, run_underlying hu, hfld, asAgg, hty', hoff, hrun], hrv⟩
        · exact hg.elim

end
end Go.Vx
end

section
set_option linter.unusedVariables false
set_option linter.unusedSimpArgs false
namespace Go.Vx
open Go Go.RowKit

section
variable {X : Ctx} {s : S} {a : Act} {w : World} {β : Nat → Value} {o : Oper} {d : Nat} {bb : Box} {v : AV} {u : Upd}

theorem q_iv {c : Value} (h1 : c.oneCell' = true) (hg : Gets X.P X.E d bb (iv c) v u) (hrun : (execOp a.eval o).run X.P w = .ok (.value c) w) : Quiet X s a w β o v u := by
  obtain ⟨rfl, rfl⟩ := hg
  exact ⟨rfl, c, hrun, rv_sc h1⟩

/-! ### equality of structs and arrays -/
/-- values that stand for cells of a type -/
def IsV (w : World) (M : Nat → Prop) (ag : Bool) (v : Value) (ds : List D) : Prop :=
  match ag with
  | true => ∃ cs, v = .agg cs ∧ cs.size = ds.length ∧ ∀ j d, ds[j]? = some d → Rp w M (cs.getD j undef) d
  | false => ∃ d, ds = [d] ∧ Rp w M v d

theorem IsV.part {P : Program} {E : Env} (hE : EnvOK P E) {w : World} {M : Nat → Prop} {T : Nat} {ti : TI} (hT : E T = some ti) {cs : Array Value} {ds : List D} {off : Nat} (hs : cs.size = ds.length)
    (hr : ∀ j d, ds[j]? = some d → Rp w M (cs.getD j undef) d) (hl : off + ti.size ≤ ds.length) : ∃ v', (part T cs off).run P w = .ok v' w ∧ IsV w M (kAgg ti.kind) v' ((ds.drop off).take ti.size) := by
  have hty := hE T ti hT
  cases hk : kAgg ti.kind
  · have h1 := hty.size1 hk
    have hlt : off < cs.size := by omega
    have hd : ds[off]? = some (ds.getD off (.sc undef)) := one_getD (by omega)
    refine ⟨cs.getD off undef, by simp [Go.part, hty.agg_run, hk, hlt, Array.getD], _, ?_, hr off _ hd⟩
    rw [h1, List.drop_eq_getElem_cons (by omega), List.take_succ_cons, List.take_zero]
    simp [List.getD, List.getElem?_eq_getElem (show off < ds.length by omega)]
  · refine ⟨.agg (cs.extract off (off + ti.size)), by simp [Go.part, hty.agg_run, hk, hty.size_run], _, rfl, by simp; omega, fun j d hd => ?_⟩
    rw [List.getElem?_take] at hd
    split at hd
    · rename_i hj
      rw [List.getElem?_drop] at hd
      have h1 := hr _ d hd
      have hlt : off + j < cs.size := by rw [hs]; exact (List.getElem?_eq_some_iff.1 hd).1
      have e : (cs.extract off (off + ti.size)).getD j undef = cs.getD (off + j) undef := by
        have : j < (cs.extract off (off + ti.size)).size := by simp; omega
        simp only [Array.getD, this, hlt, dif_pos]
        simp
      rw [e]; exact h1
    · cases hd

theorem and2_some {x y : Option Bool} {t : Bool} (h : and2 x y = some t) : ∃ p q, x = some p ∧ y = some q ∧ t = (p && q) := by
  cases x <;> cases y <;> simp only [and2] at h <;> first | (cases h; done) | skip
  rename_i p q
  exact ⟨p, q, rfl, rfl, by simpa using h.symm⟩

def eqElems (dd e n : Nat) (xs ys : Array Value) : List Nat → Sem Bool
  | [] => pure true
  | i :: r => do
    let a ← part e xs (i * n)
    let b ← part e ys (i * n)
    let q ← Op.equalIn dd e a b
    if (!q) = true then pure false else eqElems dd e n xs ys r

theorem run_equalIn_arr {P : Program} (w : World) (dd : Nat) (t m e sz : Nat) (xs ys : Array Value) (ht : P.underlying t = some (.array m e)) (hsz : (sizeOf e).run P w = .ok sz w) :
    (Op.equalIn (dd + 1) t (.agg xs) (.agg ys)).run P w = (eqElems dd e sz xs ys (List.range' 0 m)).run P w := by
  simp only [Op.equalIn, Sem.run_bind, run_underlying ht, Result.andThen_ok, hsz]
  rw [Std.Legacy.Range.forIn_eq_forIn_range']
  simp only [Std.Legacy.Range.size, Nat.sub_zero, Nat.add_sub_cancel, Nat.div_one]
  generalize List.range' 0 m = l
  clear hsz ht
  induction l generalizing w with
  | nil => simp [eqElems]
  | cons i l ih =>
    simp only [List.forIn_cons, eqElems, Sem.run_bind, Sem.run_ite]
    generalize (part e xs (i * sz)).run P w = r1
    cases r1 with
    | ok a w1 =>
      simp only [Result.andThen_ok]
      generalize (part e ys (i * sz)).run P w1 = r2
      cases r2 with
      | ok b w2 =>
        simp only [Result.andThen_ok]
        generalize (Op.equalIn dd e a b).run P w2 = r3
        cases r3 with
        | ok r w3 =>
          cases r
          · simp only [Result.andThen_ok, Bool.not_false, if_true, Sem.run_pure]
          · simp only [Result.andThen_ok, Bool.not_true, Bool.false_eq_true, if_false, Sem.run_pure]
            exact ih w3
        | halt x w3 => simp [Result.andThen]
      | halt x w2 => simp [Result.andThen]
    | halt x w1 => simp [Result.andThen]

theorem IsV.sc {M : Nat → Prop} {v : Value} {c : Value} (h : IsV w M false v [.sc c]) : v = c := by
  obtain ⟨d, hd, hv⟩ := h
  simp only [List.cons.injEq, and_true] at hd
  subst hd
  cases hv; rfl

/-- equality as the types go is the model's -/
theorem run_eqT {P : Program} {E : Env} (hE : EnvOK P E) (w : World) (M : Nat → Prop) : ∀ (n dd : Nat) (T : Nat) (ti : TI) (x y : Value) (xs ys : List D) (t : Bool), n ≤ dd → E T = some ti → xs.length = ti.size → ys.length = ti.size →
    IsV w M (kAgg ti.kind) x xs → IsV w M (kAgg ti.kind) y ys → eqT E n (some ti) xs ys = some t → (Op.equalIn dd T x y).run P w = .ok t w
  | 0, _, _, _, _, _, _, _, _, _, _, _, _, _, _, h => by simp [eqT] at h
  | n + 1, 0, _, _, _, _, _, _, _, hd, _, _, _, _, _, _ => by omega
  | n + 1, dd + 1, T, ti, x, y, xs, ys, t, hd, hT, hlx, hly, hx, hy, h => by
    have hty := hE T ti hT
    simp only [eqT] at h
    cases hk : ti.kind <;> rw [hk] at h hx hy <;> simp only [eqK] at h <;> try (cases h; done)
    case int k =>
      have hu := (KindOK.int hty hk).1
      unfold eqI at h
      split at h
      · rename_i k1 a1 k2 b1
        have h1 := IsV.sc hx
        have h2 := IsV.sc hy
        subst h1; subst h2
        by_cases hkk : k1 = k2
        · subst hkk
          simp only [decide_true, cond_true, Option.some.injEq] at h
          subst h
          exact run_equalIn_int w dd T k1 k a1 b1 hu
        · simp [hkk] at h
      · cases h
    case str =>
      have hu := (KindOK.str hty hk).1
      unfold eqSt at h
      split at h
      · rename_i a1 b1
        have h1 := IsV.sc hx
        have h2 := IsV.sc hy
        subst h1; subst h2
        simp only [Option.some.injEq] at h
        subst h
        exact run_equalIn_string w dd T a1 b1 hu
      · cases h
    case bool =>
      have hu := (KindOK.bool hty hk).1
      unfold eqB at h
      split at h
      · rename_i a1 b1
        have h1 := IsV.sc hx
        have h2 := IsV.sc hy
        subst h1; subst h2
        simp only [Option.some.injEq] at h
        subst h
        exact run_equalIn_bool w dd T a1 b1 hu
      · cases h
    case struct fs =>
      obtain ⟨fields, hu, hfs, hst, _⟩ := KindOK.struct hty hk
      obtain ⟨cx, rfl, hcx, hrx⟩ := hx
      obtain ⟨cy, rfl, hcy, hry⟩ := hy
      have hfo : P.fieldsOf T = fields := by simp [Program.fieldsOf, hu]
      rw [run_equalIn_struct w dd T cx cy (by rw [hfo]; exact hu) hst, hfo]
      obtain ⟨hf1, hf2⟩ := hfs
      generalize fields.toList = fl at hf1 hf2
      clear hu hfo hk hst
      induction fl generalizing fs t with
      | nil =>
        subst hf1
        simp only [List.map_nil, eqFs, Option.some.injEq] at h
        subst h
        simp [Op.eqFields]
      | cons f fl ih =>
        subst hf1
        simp only [List.map_cons, eqFs] at h
        obtain ⟨p, q, hp, hq, rfl⟩ := and2_some h
        obtain ⟨hn, fti, hfe, hf0, hfl⟩ := hf2 f (List.mem_cons_self ..)
        rw [hfe] at hp
        simp only [szOf] at hp
        have ih' := ih q (fl.map fun f => (f.offset, f.type)) hq rfl (fun g hg => hf2 g (List.mem_cons_of_mem _ hg))
        obtain ⟨vx, hpx, hvx⟩ := IsV.part hE hfe hcx hrx (by omega : f.offset + fti.size ≤ xs.length)
        obtain ⟨vy, hpy, hvy⟩ := IsV.part hE hfe hcy hry (by omega : f.offset + fti.size ≤ ys.length)
        have hrec := run_eqT hE w M n dd f.type fti vx vy _ _ p (by omega) hfe (by rw [List.length_take, List.length_drop]; omega) (by rw [List.length_take, List.length_drop]; omega) hvx hvy hp
        rw [Op.eqFields, if_pos hn]
        simp only [Sem.run_bind, hpx, Result.andThen_ok, hpy, hrec, Sem.run_ite]
        cases p
        · simp
        · simpa using ih'
    case array m e =>
      obtain ⟨hu, _, te, hEe, hte0, hsz⟩ := KindOK.array hty hk
      obtain ⟨cx, rfl, hcx, hrx⟩ := hx
      obtain ⟨cy, rfl, hcy, hry⟩ := hy
      rw [run_equalIn_arr w dd T m e te.size cx cy hu ((hE e te hEe).size_run w)]
      rw [hEe] at h
      simp only [szOf] at h
      have key : ∀ (k i : Nat) (t : Bool), i + k = m → eqAs (eqT E n (some te)) te.size k (xs.drop (i * te.size)) (ys.drop (i * te.size)) = some t →
          (eqElems dd e te.size cx cy (List.range' i k)).run P w = .ok t w := by
        intro k
        induction k with
        | zero =>
          intro i t _ h
          simp only [eqAs, Option.some.injEq] at h
          subst h
          simp [eqElems]
        | succ k ih =>
          intro i t hi h
          simp only [eqAs] at h
          obtain ⟨p, q, hp, hq, rfl⟩ := and2_some h
          have hii : i * te.size + te.size ≤ m * te.size := by rw [← Nat.succ_mul]; exact Nat.mul_le_mul_right _ (by omega)
          obtain ⟨vx, hpx, hvx⟩ := IsV.part hE hEe hcx hrx (by omega : i * te.size + te.size ≤ xs.length)
          obtain ⟨vy, hpy, hvy⟩ := IsV.part hE hEe hcy hry (by omega : i * te.size + te.size ≤ ys.length)
          have hrec := run_eqT hE w M n dd e te vx vy _ _ p (by omega) hEe (by rw [List.length_take, List.length_drop]; omega) (by rw [List.length_take, List.length_drop]; omega) hvx hvy hp
          rw [List.drop_drop, List.drop_drop, ← Nat.succ_mul] at hq
          have ih' := ih (i + 1) q (by omega) hq
          rw [List.range'_succ, eqElems]
          simp only [Sem.run_bind, hpx, Result.andThen_ok, hpy, hrec, Sem.run_ite]
          cases p
          · simp
          · simpa using ih'
      exact key m 0 t (by omega) (by simpa using h)

end
end Go.Vx
end

section
set_option linter.unusedVariables false
set_option linter.unusedSimpArgs false
namespace Go.Vx
open Go Go.RowKit

section
variable {X : Ctx} {s : S} {a : Act} {w : World} {β : Nat → Value} {o : Oper} {d : Nat} {bb : Box} {v : AV} {u : Upd}

theorem exec_bin {op : BinOp} {t t' : Nat} {x y : Operand} (ho : o.op = .binOp op t x y t') {ρ : Operand → Value} {P : Program} {vx vy v' : Value} (hx : ρ x = vx) (hy : ρ y = vy) (hgd : (eqGuard op t x y vx vy).run P w = .ok () w) (hr : (binOp op t vx vy).run P w = .ok v' w) :
    (execOp ρ o).run P w = .ok (.value v') w := by
  subst hx; subst hy
  simp only [execOp, ho, Sem.run_bind, hgd, Result.andThen_ok, hr, Sem.run_pure]

theorem run_equalIn_nil {P : Program} (w : World) (d t e : Nat) (hu : P.underlying t = some (.slice e)) : (Op.equalIn (d + 1) t (.slice none 0 0) (.slice none 0 0)).run P w = .ok true w := by
  simp [Op.equalIn, run_underlying hu]
theorem run_equalIn_some {P : Program} (w : World) (d t e : Nat) (ad : Addr) (n c : Nat) (hu : P.underlying t = some (.slice e)) : (Op.equalIn (d + 1) t (.slice (some ad) n c) (.slice none 0 0)).run P w = .ok false w := by
  simp [Op.equalIn, run_underlying hu]
theorem run_equalIn_none {P : Program} (w : World) (d t e n c : Nat) (hu : P.underlying t = some (.slice e)) : (Op.equalIn (d + 1) t (.slice none n c) (.slice none 0 0)).run P w = .ok true w := by
  simp [Op.equalIn, run_underlying hu]
theorem q_nil {op : BinOp} {t' : Nat} {x y : Operand} {T : Nat} {t : Bool} {vx vy : Value} (ho : o.op = .binOp op T x y t') (hx : a.eval x = vx) (hy : a.eval y = vy) (hE : EnvOK X.P X.E) (hg : Gets X.P X.E d bb (nilT op t (X.E T)) v u)
    (he : ∀ w e, X.P.underlying T = some (.slice e) → (Op.equalIn 10000 T vx vy).run X.P w = .ok t w) (hvx : ∃ A n c, vx = .slice A n c := by exact ⟨_, _, _, rfl⟩) (hvy : ∃ A n c, vy = .slice A n c := by exact ⟨_, _, _, rfl⟩) : Quiet X s a w β o v u := by
  obtain ⟨A, n, c, rfl⟩ := hvx
  obtain ⟨A', n', c', rfl⟩ := hvy
  unfold nilT at hg
  split at hg
  · rename_i ti hT
    have hty := hE T ti hT
    unfold nilK at hg
    split at hg
    · rename_i e hk
      have hu := (KindOK.slice hty hk).1
      have hgd : (eqGuard op T x y (.slice A n c) (.slice A' n' c')).run X.P w = .ok () w := by
        unfold eqGuard
        split <;> simp
      unfold nilB at hg
      split at hg
      · refine q_iv rfl hg (exec_bin ho hx hy hgd ?_)
        have := he w e hu
        simp only [binOp]
        simp [Op.equal, Op.maxDepth, this]
      · refine q_iv rfl hg (exec_bin ho hx hy hgd ?_)
        have := he w e hu
        simp only [binOp]
        simp [Op.equal, Op.maxDepth, this]
      · exact hg.elim
    · exact hg.elim
  · exact hg.elim

theorem q_bin (h : Inv X s a w β) (hE : EnvOK X.P X.E) {op : BinOp} {t t' : Nat} {x y : Operand} (ho : o.op = .binOp op t x y t') (hg : Gets X.P X.E d bb (binAV X.E op (X.E t) (ev s.fr x) (ev s.fr y)) v u) : Quiet X s a w β o v u := by
  unfold binAV at hg
  split at hg
  · rename_i n c hx hy
    exact q_nil (t := true) ho (eval_sc h hx) (eval_sc h hy) hE hg (fun w e hu => run_equalIn_none w 9999 t e n c hu)
  · rename_i ad n c hx hy
    exact q_nil (t := false) ho (eval_sc h hx) (eval_sc h hy) hE hg (fun w e hu => run_equalIn_some w 9999 t e ad n c hu)
  · rename_i xs hx hy
    obtain ⟨hne, hg⟩ := hg
    have hv := h.ev x
    rw [hx] at hv
    generalize hax : a.eval x = vv at hv
    have hr := hv.to_c
    cases hr with
    | sl A c size xs cell hc hm h0 hsz hA hr =>
      obtain ⟨ad, rfl, _, _⟩ := hA hne
      exact q_nil (t := false) ho hax (eval_sc h hy) hE hg (fun w e hu => run_equalIn_some w 9999 t e ad _ _ hu)
  · rename_i k m k' n hx hy
    have hxv := eval_sc h hx
    have hyv := eval_sc h hy
    have hex : ∀ v', (binOp op t (.int k m) (.int k' n)).run X.P w = .ok v' w → (execOp a.eval o).run X.P w = .ok (.value v') w := fun v' hv => exec_bin ho hxv hyv (by rw [eqGuard_at_int]; simp) hv
    unfold binI at hg
    split at hg
    · unfold shiftR at hg
      obtain ⟨h0, hg⟩ := hg
      refine q_iv rfl hg (hex _ ?_)
      have hn : ¬ n < 0 := by omega
      simp [binOp_shl, Op.shift, hn]
    · unfold shiftR at hg
      obtain ⟨h0, hg⟩ := hg
      refine q_iv rfl hg (hex _ ?_)
      have hn : ¬ n < 0 := by omega
      simp [binOp_shr, Op.shift, hn]
    · rename_i op' hns1 hns2
      obtain ⟨hk, hg1⟩ := cond_val hg
      clear hg
      have hg := hg1
      clear hg1
      have hkk : k = k' := by simpa using hk
      subst hkk
      unfold intBin at hg
      split at hg
      · exact q_iv rfl hg (hex _ (by simp [binOp_add, Op.intArith]))
      · exact q_iv rfl hg (hex _ (by simp [binOp_sub, Op.intArith]))
      · exact q_iv rfl hg (hex _ (by simp [binOp_mul, Op.intArith]))
      · obtain ⟨h0, hg⟩ := hg
        exact q_iv rfl hg (hex _ (by simp [binOp_quo, Op.intDiv, h0]))
      · obtain ⟨h0, hg⟩ := hg
        exact q_iv rfl hg (hex _ (by simp [binOp_rem, Op.intDiv, h0]))
      · exact q_iv rfl hg (hex _ (by simp [binOp_eql]))
      · exact q_iv rfl hg (hex _ (by simp [binOp_neq]))
      · exact q_iv rfl hg (hex _ (by simp [binOp_lss]))
      · exact q_iv rfl hg (hex _ (by simp [binOp_leq]))
      · exact q_iv rfl hg (hex _ (by simp [binOp_gtr]))
      · exact q_iv rfl hg (hex _ (by simp [binOp_geq]))
      · exact q_iv rfl hg (hex _ (by simp [binOp_and, intBits_and]))
      · exact q_iv rfl hg (hex _ (by simp [binOp_or, intBits_or]))
      · exact q_iv rfl hg (hex _ (by simp [binOp_xor, intBits_xor]))
      · exact q_iv rfl hg (hex _ (by simp [binOp_andNot, intBits_andNot]))
      · exact hg.elim
      · exact hg.elim
  · rename_i m n hx hy
    have hxv := eval_sc h hx
    have hyv := eval_sc h hy
    have hex : ∀ v', (binOp op t (.string m) (.string n)).run X.P w = .ok v' w → (execOp a.eval o).run X.P w = .ok (.value v') w := fun v' hv => exec_bin ho hxv hyv (by rw [eqGuard_at_string]; simp) hv
    unfold strBin at hg
    split at hg
    · obtain ⟨h0, hg⟩ := hg
      refine q_iv rfl hg (hex _ ?_)
      have hn : ¬ (9223372036854775807 < ((m.size : Int) + (n.size : Int))) := by omega
      simp [binOp_string_add, Op.stringOp, hn]
    · exact q_iv rfl hg (hex _ (by simp [binOp_string_eql]))
    · exact q_iv rfl hg (hex _ (by simp [binOp_string_neq]))
    · exact hg.elim
  · rename_i m n hx hy
    have hxv := eval_sc h hx
    have hyv := eval_sc h hy
    have hex : ∀ v', (binOp op t (.bool m) (.bool n)).run X.P w = .ok v' w → (execOp a.eval o).run X.P w = .ok (.value v') w := fun v' hv => exec_bin ho hxv hyv (by rw [eqGuard_at_bool]; simp) hv
    unfold boolT at hg
    split at hg
    · rename_i ti hT
      have hty := hE t ti hT
      unfold boolK at hg
      split at hg
      · rename_i hk
        have hu := (KindOK.bool hty hk).1
        unfold boolBin at hg
        split at hg
        · refine q_iv rfl hg (hex _ ?_)
          have := run_equalIn_bool (P := X.P) w 9999 t m n hu
          simp only [binOp]
          simp [Op.equal, Op.maxDepth, this]
        · refine q_iv rfl hg (hex _ ?_)
          have := run_equalIn_bool (P := X.P) w 9999 t m n hu
          simp only [binOp]
          simp [Op.equal, Op.maxDepth, this]
        · exact hg.elim
      · exact hg.elim
    · exact hg.elim
  · rename_i xs ys hx hy
    have hrx := h.ev x
    have hry := h.ev y
    rw [hx] at hrx
    rw [hy] at hry
    unfold aggT at hg
    split at hg
    · rename_i ti hT
      have hty := hE t ti hT
      obtain ⟨hl, hg⟩ := cond_val hg
      simp only [Bool.and_eq_true, beq_iff_eq] at hl
      obtain ⟨hka, hl⟩ := hl
      have hgt : X.P.eqGuardType X.P.depth t = false := by
        cases hk : ti.kind <;> rw [hk] at hka <;> first | (cases hka; done) | skip
        · obtain ⟨_, _, _, _, h4⟩ := KindOK.struct hty hk; exact h4
        · exact (KindOK.array hty hk).2.1
      generalize hax : a.eval x = vx at hrx
      generalize hay : a.eval y = vy at hry
      cases hrx with
      | ag cx _ hsx hrx =>
        cases hry with
        | ag cy _ hsy hry =>
          have heq : ∀ b, eqT X.E 4 (some ti) xs ys = some b → (Op.equalIn 10000 t (.agg cx) (.agg cy)).run X.P w = .ok b w := fun b hb =>
            run_eqT hE w _ 4 10000 t ti _ _ xs ys b (by omega) hT hl.1 hl.2 (by rw [hka]; exact ⟨cx, rfl, hsx, hrx⟩) (by rw [hka]; exact ⟨cy, rfl, hsy, hry⟩) hb
          have hgd : ∀ op, (eqGuard op t x y (.agg cx) (.agg cy)).run X.P w = .ok () w := fun op => run_eqGuard_agg w op t x y cx cy hgt
          unfold aggBin at hg
          split at hg
          · cases hb : eqT X.E 4 (some ti) xs ys with
            | none => rw [hb] at hg; exact hg.elim
            | some b =>
              rw [hb] at hg
              refine q_iv rfl hg (exec_bin ho hax hay (hgd _) ?_)
              rw [run_eql_struct, heq b hb]; rfl
          · cases hb : eqT X.E 4 (some ti) xs ys with
            | none => rw [hb] at hg; exact hg.elim
            | some b =>
              rw [hb] at hg
              refine q_iv rfl hg (exec_bin ho hax hay (hgd _) ?_)
              rw [run_neq_struct, heq b hb]; rfl
          · exact hg.elim
    · exact hg.elim
  · exact hg.elim


theorem q_conv (h : Inv X s a w β) (hE : EnvOK X.P X.E) {t t' : Nat} {x : Operand} (ho : o.op = .convert t t' x) (hg : Gets X.P X.E d bb (convAV (ev s.fr x) (X.E t) (X.E t')) v u) : Quiet X s a w β o v u := by
  unfold convAV at hg
  split at hg
  · rename_i ti hT
    have hty := hE t' ti hT
    split at hg
    · rename_i si hS
      obtain ⟨ds, hds⟩ := (hE t si hS).und
      unfold convK at hg
      split at hg
      · rename_i k hk
        have hu := (KindOK.int hty hk).1
        split at hg
        · rename_i k' n hx
          refine q_iv rfl hg ?_
          simp [execOp, ho, eval_sc h hx, convert, run_underlying hds, run_underlying hu, Conv.intToInt]
        · exact hg.elim
      · rename_i hk
        have hu := (KindOK.str hty hk).1
        split at hg
        · rename_i b hx
          refine q_iv rfl hg ?_
          simp [execOp, ho, eval_sc h hx, convert, run_underlying hds, run_underlying hu]
        · exact hg.elim
      · exact hg.elim
    · exact hg.elim
  · exact hg.elim

theorem byteAt_eq (b : ByteArray) (n : Nat) (h : n < b.size) : b[n]? = some (b.data.toList.getD n 0) := by
  rw [ByteArray.getElem?_lt' b n h]
  congr 1
  have h' : n < b.data.toList.length := by simpa using h
  simp only [List.getD, List.getElem?_eq_getElem h', Option.getD_some, Array.getElem_toList]
  rfl

theorem q_indexv (h : Inv X s a w β) (hE : EnvOK X.P X.E) {t : Nat} {x i : Operand} (ho : o.op = .index t x i) (hg : Gets X.P X.E d bb (indexAV (ev s.fr x) (ev s.fr i) (X.E t)) v u) : Quiet X s a w β o v u := by
  unfold indexAV at hg
  split at hg
  · rename_i ti hT
    have hty := hE t ti hT
    unfold indexVK at hg
    split at hg
    · rename_i hk
      have hu := (KindOK.str hty hk).1
      split at hg
      · rename_i b hx
        unfold indexS at hg
        split at hg
        · rename_i k n hi
          obtain ⟨⟨h0, h1⟩, hg⟩ := hg
          refine q_iv rfl hg ?_
          simp [execOp, ho, eval_sc h hx, eval_sc h hi, Instr.index, asIntOf, run_underlying hu, h0, byteAt_eq b n.toNat h1, byteAt]
        · exact hg.elim
      · exact hg.elim
    · exact hg.elim
  · exact hg.elim

/-- a bound of a part: the operand's value is the number -/
def BoundIs (a : Act) (x : Option Operand) (dflt : Nat) (n : Int) : Prop := match x with
  | none => n = dflt
  | some x => ∃ k, a.eval x = .int k n
theorem bound_is (h : Inv X s a w β) {x : Option Operand} {dflt : Nat} {n : Int} (hb : bound dflt (x.map (ev s.fr)) = some n) : BoundIs a x dflt n := by
  cases x with
  | none => simp only [Option.map_none, bound, Option.some.injEq] at hb; exact hb.symm
  | some x =>
    simp only [Option.map_some] at hb
    unfold bound at hb
    split at hb
    · rename_i hh; cases hh
    · rename_i k m hh
      simp only [Option.some.injEq] at hh hb
      subst hb
      exact ⟨k, eval_sc h hh⟩
    · cases hb

theorem run_bounds {P : Program} {isS : Bool} {len cap : Nat} {lo hi : Option Operand} {l hh : Int} (hl : BoundIs a lo 0 l) (hhi : BoundIs a hi len hh) (h0 : 0 ≤ l) (h1 : l ≤ hh) (h2 : hh ≤ cap) :
    (Instr.sliceBounds isS len cap (lo.map a.eval) (hi.map a.eval) none).run P w = .ok (l.toNat, hh.toNat, cap) w := by
  cases lo with
  | none =>
    simp only [BoundIs] at hl
    subst hl
    cases hi with
    | none =>
      simp only [BoundIs] at hhi
      subst hhi
      simp [Instr.sliceBounds]
    | some y =>
      obtain ⟨k, hy⟩ := hhi
      have : 0 ≤ hh := by omega
      simp [Instr.sliceBounds, Instr.sliceBound, hy, asIntOf, this, h2]
  | some x =>
    obtain ⟨k, hx⟩ := hl
    cases hi with
    | none =>
      simp only [BoundIs] at hhi
      subst hhi
      have e : l ≤ (len : Int) := h1
      simp [Instr.sliceBounds, Instr.sliceBound, hx, asIntOf, h0, e]
    | some y =>
      obtain ⟨k', hy⟩ := hhi
      have h3 : 0 ≤ hh := by omega
      have h4 : l ≤ ((hh.toNat : Nat) : Int) := by omega
      simp [Instr.sliceBounds, Instr.sliceBound, hx, hy, asIntOf, h0, h2, h3]
      intro hlt
      omega

theorem froz_sc {bx : List (Nat × Box)} {av : AV} {x : Value} (h : froz bx av = .c (.sc x)) : av = .c (.sc x) := by
  cases av with
  | osl id ver =>
    have h : frozB id ver (lookB id bx) = .c (.sc x) := h
    cases hl : lookB id bx <;> rw [hl] at h <;> simp only [frozB] at h <;> try (cases h; done)
    rename_i v xs
    cases hv : (v == ver) <;> rw [hv] at h <;> cases h
  | _ => exact h

theorem froz_sound (h : Inv X s a w β) {av : AV} {v : Value} (hv : RV w (MM X (lookB · s.bx) β) β (lookB · s.bx) v av) : RV w (MM X (lookB · s.bx) β) β (lookB · s.bx) v (froz s.bx av) := by
  cases av with
  | osl id ver =>
    show RV _ _ _ _ v (frozB id ver (lookB id s.bx))
    have hv0 := hv
    cases hv with
    | osl _ _ _ h1 hok =>
      have hbox := h.box id
      cases hl : lookB id s.bx <;> rw [hl] at hok hbox <;> simp only [frozB] <;> try (exact hv0)
      case frz v' xs =>
        cases hvv : (v' == ver)
        · exact hv0
        · have hve : v' = ver := by simpa using hvv
          rw [hok.2 hve.symm]
          exact .c _ _ hbox
  | _ => exact hv

theorem q_slice (h : Inv X s a w β) (hE : EnvOK X.P X.E) {t : Nat} {x : Operand} {lo hi : Option Operand} (ho : o.op = .slice t x lo hi none) (hg : Gets X.P X.E d bb (sliceAV X.E s.bx (lo.map (ev s.fr)) (hi.map (ev s.fr)) (froz s.bx (ev s.fr x)) (X.E t)) v u) : Quiet X s a w β o v u := by
  unfold sliceAV at hg
  split at hg
  · rename_i ti hT
    have hty := hE t ti hT
    have hx := froz_sound h (h.ev x)
    unfold sliceK at hg
    split at hg
    · rename_i e hk
      obtain ⟨hu, _, te, hEe, hte0, _⟩ := KindOK.slice hty hk
      have hsz := (hE e te hEe).size_run w
      rw [hEe] at hg
      simp only [sliceE] at hg
      unfold sliceXl at hg
      split at hg
      · rename_i xs hxs
        rw [hxs] at hx
        unfold cutL at hg
        split at hg
        · rename_i l hh hl hhi
          have hl' := bound_is h hl
          have hhi' := bound_is h hhi
          obtain ⟨⟨⟨h0, h1, h2⟩, hal⟩, rfl, rfl⟩ := hg
          have hrp := hx.to_c
          generalize hax : a.eval x = vx at hrp
          cases hrp with
          | sl A c size _ cell hc hm hs0 hlen hA hr =>
            have hb := run_bounds (P := X.P) (w := w) (isS := true) (cap := c) hl' hhi' h0 h1 (by omega)
            have hrun : (Instr.slice t (.slice A xs.length c) (lo.map a.eval) (hi.map a.eval) none).run X.P w =
                .ok (.slice (if c = l.toNat then A else A.map (·.add (l.toNat * te.size))) (hh.toNat - l.toNat) (c - l.toNat)) w := by
              simp [Instr.slice, run_underlying hu, hb, hsz]
            have hex : (execOp a.eval o).run X.P w = .ok (.value (.slice (if c = l.toNat then A else A.map (·.add (l.toNat * te.size))) (hh.toNat - l.toNat) (c - l.toNat))) w := by
              simp only [execOp, ho, hax, Option.map_none, Instr.sliceAt, Sem.run_bind, run_underlying hu, Result.andThen_ok, hrun, Sem.run_pure]
            have hln : ((xs.take hh.toNat).drop l.toNat).length = hh.toNat - l.toNat := by simp; omega
            refine ⟨rfl, _, hex, ?_⟩
            rw [← hln]
            refine .c _ _ (.sl _ _ size _ (fun j => cell (l.toNat * size + j)) (by omega) (by omega) hs0 (fun y hy => hlen y (List.mem_of_mem_take (List.mem_of_mem_drop hy))) (fun hne => ?_) (fun i y j dd hy hd => ?_))
            · have hpos := List.length_pos_iff.2 hne
              rw [hln] at hpos
              have hxne : xs ≠ [] := by
                rintro rfl
                simp at h2; omega
              obtain ⟨ad, hAe, hM, hcell⟩ := hA hxne
              have hss : te.size = size := by
                obtain ⟨y, hy⟩ := List.exists_mem_of_ne_nil xs hxne
                rw [← hal y hy, hlen y hy]
              have hcl : ¬ c = l.toNat := by omega
              refine ⟨ad.add (l.toNat * size), by rw [if_neg hcl, hAe, hss]; rfl, by rw [block_of_add]; exact hM, fun j hj => ?_⟩
              rw [add_of_add]
              apply hcell
              rw [hln] at hj
              have h4 : l.toNat * size + (hh.toNat - l.toNat) * size ≤ xs.length * size := by
                rw [← Nat.add_mul]; exact Nat.mul_le_mul_right _ (by omega)
              omega
            · rw [List.getElem?_drop, List.getElem?_take] at hy
              split at hy
              · have := hr (l.toNat + i) y j dd hy hd
                rwa [Nat.add_mul, Nat.add_assoc] at this
              · cases hy
        · exact hg.elim
      · rename_i id ver hxs
        rw [hxs] at hx
        unfold sliceO at hg
        split at hg
        · rename_i e' v' xs hl
          obtain ⟨hve, hg⟩ := beq_val hg
          unfold cutO at hg
          split at hg
          · rename_i l hh hlo hhi
            have hl' := bound_is h hlo
            have hhi' := bound_is h hhi
            obtain ⟨⟨⟨h0, h1, h2⟩, hal⟩, rfl, rfl⟩ := hg
            generalize hax : a.eval x = vx at hx
            cases hx with
            | osl _ _ _ h1c hok =>
              rw [hl] at hok
              have hvx := hok.2 hve.symm
              have hbox := h.box id
              rw [hl] at hbox
              obtain ⟨te', flat, _, _, hlen, hown, _, _⟩ := hbox
              obtain ⟨B, c, hβ, hcm, hB⟩ : ∃ B c, β id = .slice B xs.length c ∧ xs.length ≤ c ∧ (0 < xs.length → ∃ g, B = some ⟨g, 0, none⟩) := by
                rcases hown.2 with ⟨hv, hn⟩ | ⟨g, cap, cur, hv, _, _, hc, _⟩
                · exact ⟨none, 0, by rw [hv, hn], by omega, fun h => by omega⟩
                · exact ⟨_, cap, hv, hc, fun _ => ⟨g, rfl⟩⟩
              have hb := run_bounds (P := X.P) (w := w) (isS := true) (cap := c) hl' hhi' h0 h1 (by omega)
              have hrun : (Instr.slice t (.slice B xs.length c) (lo.map a.eval) (hi.map a.eval) none).run X.P w =
                  .ok (.slice (if c = l.toNat then B else B.map (·.add (l.toNat * te.size))) (hh.toNat - l.toNat) (c - l.toNat)) w := by
                simp [Instr.slice, run_underlying hu, hb, hsz]
              have hex : (execOp a.eval o).run X.P w = .ok (.value (.slice (if c = l.toNat then B else B.map (·.add (l.toNat * te.size))) (hh.toNat - l.toNat) (c - l.toNat))) w := by
                simp only [execOp, ho, hax, hvx, hβ, Option.map_none, Instr.sliceAt, Sem.run_bind, run_underlying hu, Result.andThen_ok, hrun, Sem.run_pure]
              refine ⟨rfl, _, hex, .csl _ _ _ _ _ _ rfl ?_⟩
              rw [hl]
              refine ⟨by omega, fun _ => ⟨hal, B, xs.length, c, _, _, hβ, by omega, rfl, fun hpos => ?_⟩⟩
              obtain ⟨g, hBg⟩ := hB (by omega)
              refine ⟨g, hBg, ?_⟩
              rw [if_neg (by omega), hBg, Option.map_some, add_at, Nat.zero_add]
          · exact hg.elim
        · exact hg.elim
      · rename_i id rv p hxs
        rw [hxs] at hx
        unfold sliceF at hg
        split at hg
        · rename_i e' v' r dt rows hl
          obtain ⟨hre, hg⟩ := beq_val hg
          unfold cutF at hg
          split at hg
          · rename_i hh hlo hhi
            have hl' := bound_is h hlo
            have hhi' := bound_is h hhi
            obtain ⟨⟨h0, h2⟩, rfl, rfl⟩ := hg
            generalize hax : a.eval x = vx at hx
            cases hx with
            | fsl _ _ _ _ h1c hok =>
              rw [hl] at hok
              obtain ⟨hp, hvx⟩ := hok.2 hre.symm
              have hbox := h.box id
              rw [hl] at hbox
              obtain ⟨te1, e2, te2, vs, cs, flat, hn⟩ := hbox
              have hrow := hn.row p (rows.getD p []) (get_getD hp)
              rw [← hn.inner_val p] at hrow
              obtain ⟨B, c, hβ, hcm⟩ : ∃ B c, innerV p (β id) = .slice B (rows.getD p []).length c ∧ (rows.getD p []).length ≤ c := by
                rcases hrow.2 with ⟨hv, hn⟩ | ⟨g, cap, cur, hv, _, _, hc, _⟩
                · exact ⟨none, 0, by rw [hv, hn], by omega⟩
                · exact ⟨_, cap, hv, hc⟩
              have hb := run_bounds (P := X.P) (w := w) (isS := true) (cap := c) hl' hhi' (by omega) h0 (by omega)
              have hrun : (Instr.slice t (.slice B (rows.getD p []).length c) (lo.map a.eval) (hi.map a.eval) none).run X.P w = .ok (.slice B hh.toNat c) w := by
                simp only [Instr.slice, run_underlying hu, hb, hsz, Sem.run_bind, Result.andThen_ok]
                cases B <;> simp [Addr.add_zero']
              have hex : (execOp a.eval o).run X.P w = .ok (.value (.slice B hh.toNat c)) w := by
                simp only [execOp, ho, hax, hvx, hβ, Option.map_none, Instr.sliceAt, Sem.run_bind, run_underlying hu, Result.andThen_ok, hrun, Sem.run_pure]
              refine ⟨rfl, _, hex, .cfl _ _ _ _ _ rfl ?_⟩
              rw [hl]
              exact ⟨by omega, fun _ => ⟨hp, B, _, c, hβ, by omega, rfl⟩⟩
          · exact hg.elim
        · exact hg.elim
      · exact hg.elim
    · rename_i hk
      have hu := (KindOK.str hty hk).1
      unfold sliceXs at hg
      split at hg
      · rename_i b hxs
        unfold cutS at hg
        split at hg
        · rename_i l hh hl hhi
          have hl' := bound_is h hl
          have hhi' := bound_is h hhi
          obtain ⟨⟨h0, h1, h2⟩, hg⟩ := hg
          have hb := run_bounds (P := X.P) (w := w) (isS := false) (cap := b.size) hl' hhi' h0 h1 (by omega)
          refine q_iv rfl hg ?_
          simp [execOp, ho, eval_sc h (froz_sc hxs), Instr.sliceAt, run_underlying hu, Instr.slice, hb]
        · exact hg.elim
      · exact hg.elim
    · exact hg.elim
  · exact hg.elim

/-! builtins that only read -/
theorem exec_blt {b : Builtin} {args : Array Operand} {ts : Array Nat} (ho : o.op = .call ⟨.builtin b, args, ts⟩) (ρ : Operand → Value) :
    execOp ρ o = builtin b ts o.type (args.map fun | .const _ => true | _ => false) (args.map ρ) := by
  cases o
  simp only at ho
  subst ho
  rfl

theorem run_len_sl {P : Program} {T e : Nat} (hu : P.underlying T = some (.slice e)) (w : World) (A : Option Addr) (n c ty : Nat) : (Builtin.len_ #[T] ty #[.slice A n c]).run P w = .ok (.int .i64 n) w := by
  simp [Builtin.len_, run_underlying hu, goInt]

end
end Go.Vx
end
