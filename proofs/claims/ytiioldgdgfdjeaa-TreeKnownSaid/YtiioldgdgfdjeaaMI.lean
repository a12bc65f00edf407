/-
  The evaluation equations of the verification-condition generator, one conjunction, for 'simp only'. Written by the program 'gen.py'. Conditions: none.
  The simple equations that the generator's evaluation uses, one conjunction. Conditions: none.
-/
import Derived.Test.YtiioldgdgfdjeaaMQ

section
set_option linter.unusedVariables false
set_option maxRecDepth 4000
namespace Go.Vx
open Go

theorem V1 : (∀ (P : Program) (E : Env) (L : Sus) (pb : List (Nat × Box)) (Q : Exit → S → Prop) (s : S), vc P E L pb .skip Q s = Q .normal s) ∧
  (∀ (P : Program) (E : Env) (L : Sus) (pb : List (Nat × Box)) (Q : Exit → S → Prop) (s : S) (id : Nat) (l : List Oper), vc P E L pb (.region id l.toArray false) Q s = vcP P E pb l Q s (susOf id L)) ∧
  (∀ (P : Program) (E : Env) (pb : List (Nat × Box)) (l : List Oper) (Q : Exit → S → Prop) (s : S), vcP P E pb l Q s [] = vcOps P E (some pb) l (Q .normal) l s) ∧
  (∀ (P : Program) (E : Env) (pb : List (Nat × Box)) (l : List Oper) (Q : Exit → S → Prop) (s : S) (i j : Nat) (r : List (Nat × Nat)), vcP P E pb l Q s ((i, j) :: r) = vcOps P E (some pb) l (PanVC P E pb l Q (l.drop i)) (l.take i) s) ∧
  (∀ (P : Program) (E : Env) (L : Sus) (pb : List (Nat × Box)) (Q : Exit → S → Prop) (s : S) (id : Nat) (l : List Oper), vc P E L pb (.region id l.toArray true) Q s = vcD P E pb l (Q .normal) s (susOf id L)) ∧
  (∀ (P : Program) (E : Env) (L : Sus) (pb : List (Nat × Box)) (a b : Code) (Q : Exit → S → Prop) (s : S), vc P E L pb (.seq a b) Q s = vc P E L pb a (thenQ (vc P E L pb b Q) Q) s) ∧
  (∀ (P : Program) (E : Env) (L : Sus) (pb : List (Nat × Box)) (c : Operand) (a b : Code) (Q : Exit → S → Prop) (s : S), vc P E L pb (.cond c a b) Q s = condA (vc P E L pb a Q) (vc P E L pb b Q) s (ev s.fr c)) ∧
  (∀ (P : Program) (E : Env) (L : Sus) (pb : List (Nat × Box)) (id : Nat) (c : Code) (Q : Exit → S → Prop) (s : S), vc P E L pb (.block id c) Q s = vc P E L pb c (blockQ id Q) s) ∧
  (∀ (P : Program) (E : Env) (L : Sus) (pb : List (Nat × Box)) (c : Code) (Q : Exit → S → Prop) (s : S), vc P E L pb (.loop c) Q s = LoopVC E pb (vc P E L pb c) Q s) ∧
  (∀ (P : Program) (E : Env) (L : Sus) (pb : List (Nat × Box)) (i : Nat) (Q : Exit → S → Prop) (s : S), vc P E L pb (.exit i) Q s = Q (.exit i) s) ∧
  (∀ (P : Program) (E : Env) (L : Sus) (pb : List (Nat × Box)) (g : Operand) (ps : List Nat) (as c : Code) (Q : Exit → S → Prop) (s : S), vc P E L pb (.rangeFunc g ps.toArray as c) Q s = RangeVC P E pb ps (fun pb' K => vc P E L pb' as (onlyN K)) (fun pb' => vc P E L pb' c) Q g s) ∧
  (∀ (K : S → Prop) (s : S), onlyN K .normal s = K s) ∧
  (∀ (P : Program) (E : Env) (L : Sus) (pb : List (Nat × Box)) (Q : Exit → S → Prop) (s : S), vc P E L pb .ret Q s = Q .ret s) ∧
  (∀ (id : Nat), susOf id [] = []) ∧
  (∀ (i j : Nat) (x : List (Nat × Nat)) (r : Sus), susOf i ((j, x) :: r) = cond (i == j) x (susOf i r)) ∧
  (∀ (P : Program) (E : Env) (pb : List (Nat × Box)) (l : List Oper) (K : S → Prop) (s : S), vcD P E pb l K s [] = vcOps P E none l K l s) ∧
  (∀ (P : Program) (E : Env) (pb : List (Nat × Box)) (l : List Oper) (K : S → Prop) (s : S) (i j : Nat) (r : List (Nat × Nat)), vcD P E pb l K s ((i, j) :: r) = cond (i == j) (vcD1 P E (l.take i) (vcOps P E (some pb) l K (l.drop i)) s r) (cond (j == i + 1000) (vcLogM P E l (endL r K) i 0 l [] s) (vcLog P E l (endL ((i, j) :: r) K) 0 l [] s))) ∧
  (∀ (P : Program) (E : Env) (l : List Oper) (K : S → Prop) (s : S), vcD1 P E l K s [] = vcOps P E none l K l s) ∧
  (∀ (P : Program) (E : Env) (l : List Oper) (K : S → Prop) (s : S) (p : Nat × Nat) (r : List (Nat × Nat)), vcD1 P E l K s (p :: r) = vcLog P E l (endL (p :: r) K) 0 l [] s) ∧
  (∀ (a b : S → Prop) (s : S) (t : Bool), condA a b s (.c (.sc (.bool t))) = guardB s a b t) ∧
  (∀ (a b : S → Prop) (s : S), guardB s a b true = a s) ∧
  (∀ (a b : S → Prop) (s : S), guardB s a b false = b s) ∧
  (∀ (K : S → Prop) (Q : Exit → S → Prop) (s : S), thenQ K Q .normal s = K s) ∧
  (∀ (K : S → Prop) (Q : Exit → S → Prop) (s : S) (i : Nat), thenQ K Q (.exit i) s = Q (.exit i) s) ∧
  (∀ (K : S → Prop) (Q : Exit → S → Prop) (s : S), thenQ K Q .ret s = Q .ret s) ∧
  (∀ (id : Nat) (Q : Exit → S → Prop) (s : S), blockQ id Q .normal s = Q .normal s) ∧
  (∀ (id : Nat) (Q : Exit → S → Prop) (s : S), blockQ id Q .ret s = Q .ret s) ∧
  (∀ (id i : Nat) (Q : Exit → S → Prop) (s : S), blockQ id Q (.exit i) s = cond (i == id) (Q .normal s) (Q (.exit i) s)) ∧
  (∀ (P : Program) (E : Env) (m : Pn) (all : List Oper) (K : S → Prop) (s : S), vcOps P E m all K [] s = K s) ∧
  (∀ (P : Program) (E : Env) (m : Pn) (all : List Oper) (r : List Oper) (K : S → Prop) (s : S) (dst : Option Nat) (op : Op) (ty : Nat) (pos : String) (aft : Array Edge) (g : Option (Nat × Bool)), vcOps P E m all K (⟨dst, op, ty, pos, aft, g⟩ :: r) s = stepR P E m (dstN dst) (lookB (dstN dst) s.bx) (nextP dst (vcOps P E m all K r)) (opG E all s ⟨dst, op, ty, pos, aft, g⟩) s) ∧
  (∀ (P : Program) (E : Env) (all : List Oper) (K : Log → S → Prop) (m i : Nat) (log : Log) (s : S), vcLogM P E all K m i [] log s = K log s) ∧
  (∀ (P : Program) (E : Env) (all : List Oper) (r : List Oper) (K : Log → S → Prop) (m i : Nat) (log : Log) (s : S) (dst : Option Nat) (op : Op) (ty : Nat) (pos : String) (aft : Array Edge) (g : Option (Nat × Bool)), vcLogM P E all K m i (⟨dst, op, ty, pos, aft, g⟩ :: r) log s = cond (i == m) (stepM P E (nextL dst i (dstN dst :: refsL ((rd op).map (ev s.fr))) log (vcLogM P E all K m (i + 1) r)) (opG E all s ⟨dst, op, ty, pos, aft, g⟩) s) (stepR P E none (dstN dst) (lookB (dstN dst) s.bx) (nextL dst i (dstN dst :: refsL ((rd op).map (ev s.fr))) log (vcLogM P E all K m (i + 1) r)) (opG E all s ⟨dst, op, ty, pos, aft, g⟩) s)) ∧
  (∀ (P : Program) (E : Env) (W : AV → Upd → S → Prop) (f : Nat) (args : List AV) (u : Upd) (raw : List AV) (s : S), stepM P E W (.call f args u raw) s = MutL P E f raw W s) ∧
  (∀ (P : Program) (E : Env) (W : AV → Upd → S → Prop) (f : Nat) (raw : List AV) (s : S), stepM P E W (.callM f raw) s = MutL P E f raw W s) ∧
  (∀ (P : Program) (E : Env) (all : List Oper) (K : Log → S → Prop) (i : Nat) (log : Log) (s : S), vcLog P E all K i [] log s = K log s) ∧
  (∀ (P : Program) (E : Env) (all : List Oper) (r : List Oper) (K : Log → S → Prop) (i : Nat) (log : Log) (s : S) (dst : Option Nat) (op : Op) (ty : Nat) (pos : String) (aft : Array Edge) (g : Option (Nat × Bool)), vcLog P E all K i (⟨dst, op, ty, pos, aft, g⟩ :: r) log s = stepR P E none (dstN dst) (lookB (dstN dst) s.bx) (nextL dst i (dstN dst :: refsL ((rd op).map (ev s.fr))) log (vcLog P E all K (i + 1) r)) (opG E all s ⟨dst, op, ty, pos, aft, g⟩) s) ∧
  (∀ (E : Env) (all : List Oper) (s : S) (dst : Option Nat) (op : Op) (ty : Nat) (pos : String) (aft : Array Edge), opG E all s ⟨dst, op, ty, pos, aft, none⟩ = opR E s (dstN dst) op) ∧
  (∀ (E : Env) (all : List Oper) (s : S) (dst : Option Nat) (op : Op) (ty : Nat) (pos : String) (aft : Array Edge) (j : Nat) (want : Bool), opG E all s ⟨dst, op, ty, pos, aft, some (j, want)⟩ = guardR want (opR E s (dstN dst) op) (.val (.tp []) []) (lookO (dstAt all j) s.fr)) ∧
  (∀ (run skip : R) (t : Bool), guardR true run skip (.c (.sc (.bool t))) = .br t run skip) ∧
  (∀ (run skip : R) (t : Bool), guardR false run skip (.c (.sc (.bool t))) = .br t skip run) ∧
  (∀ (want : Bool) (run skip : R), guardR want run skip (.tp []) = skip) ∧
  (∀ (o : Oper) (r : List Oper) (j : Nat), dstAt (o :: r) (j + 1) = dstAt r j) ∧
  (∀ (dst : Option Nat) (op : Op) (ty : Nat) (pos : String) (aft : Array Edge) (g : Option (Nat × Bool)) (r : List Oper), dstAt (⟨dst, op, ty, pos, aft, g⟩ :: r) 0 = dst) ∧
  (∀ (d : Nat) (fr : List (Nat × AV)), lookO (some d) fr = look d fr) ∧
  (∀ (d : Nat), dstN (some d) = d) ∧
  (dstN none = 0) ∧
  (∀ (P : Program) (E : Env) (m : Pn) (d : Nat) (b : Box) (W : AV → Upd → S → Prop) (v : AV) (u : Upd) (s : S), stepR P E m d b W (.val v u) s = W v u s) ∧
  (∀ (P : Program) (E : Env) (m : Pn) (d : Nat) (b : Box) (W : AV → Upd → S → Prop) (p : Prop) (r : R) (s : S), stepR P E m d b W (.ob p r) s = (p ∧ stepR P E m d b W r s)) ∧
  (∀ (P : Program) (E : Env) (m : Pn) (d : Nat) (b : Box) (W : AV → Upd → S → Prop) (t : Bool) (x y : R) (s : S), stepR P E m d b W (.br t x y) s = guardB s (stepR P E m d b W x) (stepR P E m d b W y) t) ∧
  (∀ (P : Program) (E : Env) (m : Pn) (d : Nat) (b : Box) (W : AV → Upd → S → Prop) (f : Nat) (args : List AV) (u : Upd) (raw : List AV) (s : S), stepR P E m d b W (.call f args u raw) s = CallX P E m d b f args u raw W s) ∧
  (∀ (P : Program) (E : Env) (pb : List (Nat × Box)) (d : Nat) (b : Box) (W : AV → Upd → S → Prop) (f : Nat) (raw : List AV) (s : S), stepR P E (some pb) d b W (.callM f raw) s = CallMVC P E pb f raw W s) ∧
  (∀ (P : Program) (E : Env) (m : Pn) (d : Nat) (b : Box) (W : AV → Upd → S → Prop) (s : S), stepR P E m d b W .bad s = False) ∧
  (∀ (d : Option Nat) (W : S → Prop) (v : AV) (u : Upd) (s : S), nextP d W v u s = W (putU s d v u)) ∧
  (∀ (d : Option Nat) (i : Nat) (t : List Nat) (log : Log) (W : Log → S → Prop) (v : AV) (u : Upd) (s : S), nextL d i t log W v u s = W ((i, (t ++ keysU u, keysU u)) :: log) (putU s d v u)) ∧
  (∀ (sus : List (Nat × Nat)) (K : S → Prop) (log : Log) (s : S), endL sus K log s = (susOK log sus = true ∧ K s)) ∧
  (∀ (log : Log), susOK log [] = true) ∧
  (∀ (log : Log) (i j : Nat) (r : List (Nat × Nat)), susOK log ((i, j) :: r) = cond (disjN (logAt i log).2 (logAt j log).1) (cond (disjN (logAt j log).2 (logAt i log).1) (susOK log r) false) false) ∧
  (∀ (i j : Nat) (x : List Nat × List Nat) (r : Log), logAt i ((j, x) :: r) = cond (i == j) x (logAt i r)) ∧
  (∀ (i : Nat), memN i [] = false) ∧
  (∀ (i j : Nat) (r : List Nat), memN i (j :: r) = cond (i == j) true (memN i r)) := by
  refine ⟨?_, ?_, ?_, ?_, ?_, ?_, ?_, ?_, ?_, ?_, ?_, ?_, ?_, ?_, ?_, ?_, ?_, ?_, ?_, ?_, ?_, ?_, ?_, ?_, ?_, ?_, ?_, ?_, ?_, ?_, ?_, ?_, ?_, ?_, ?_, ?_, ?_, ?_, ?_, ?_, ?_, ?_, ?_, ?_, ?_, ?_, ?_, ?_, ?_, ?_, ?_, ?_, ?_, ?_, ?_, ?_, ?_, ?_, ?_, ?_⟩ <;> intros <;> first | rfl | (rename_i v _ _ _ _ _ _; cases v <;> rfl) | (rename_i v _ _ _; cases v <;> rfl) | (rename_i v _ _; cases v <;> rfl)

theorem V2 : (∀ (l : List Nat), disjN [] l = true) ∧
  (∀ (i : Nat) (r l : List Nat), disjN (i :: r) l = cond (memN i l) false (disjN r l)) ∧
  (keysU [] = []) ∧
  (∀ (i : Nat) (b : Box) (r : Upd), keysU ((i, b) :: r) = i :: keysU r) ∧
  (∀ (fr : List (Nat × AV)) (bx : List (Nat × Box)) (d : Nat) (v : AV) (u : Upd), putU ⟨fr, bx⟩ (some d) v u = ⟨(d, v) :: fr, u ++ bx⟩) ∧
  (∀ (fr : List (Nat × AV)) (bx : List (Nat × Box)) (v : AV) (u : Upd), putU ⟨fr, bx⟩ none v u = ⟨fr, u ++ bx⟩) ∧
  (∀ (i : Nat), look i [] = .top) ∧
  (∀ (i j : Nat) (v : AV) (fr : List (Nat × AV)), look i ((j, v) :: fr) = cond (i == j) v (look i fr)) ∧
  (∀ (i : Nat), lookB i [] = .dead) ∧
  (∀ (i j : Nat) (v : Box) (bx : List (Nat × Box)), lookB i ((j, v) :: bx) = cond (i == j) v (lookB i bx)) ∧
  (∀ (fr : List (Nat × AV)) (t : Nat), ev fr (.tmp t) = look t fr) ∧
  (∀ (fr : List (Nat × AV)) (k : IntKind) (n : Int), ev fr (.const (.int k n)) = .c (.sc (.int k n))) ∧
  (∀ (fr : List (Nat × AV)) (b : Bool), ev fr (.const (.bool b)) = .c (.sc (.bool b))) ∧
  (∀ (fr : List (Nat × AV)) (b : ByteArray), ev fr (.const (.string b)) = .c (.sc (.string b))) ∧
  (∀ (fr : List (Nat × AV)) (a : Option Addr) (n c : Nat), ev fr (.const (.slice a n c)) = .c (.sc (.slice a n c))) ∧
  (∀ (fr : List (Nat × AV)) (a : Option Addr), ev fr (.const (.pointer a)) = .c (.sc (.pointer a))) ∧
  (∀ (fr : List (Nat × AV)) (f : Nat), ev fr (.func f) = .fn f []) ∧
  (∀ (E : Env) (fr : List (Nat × AV)) (bx : List (Nat × Box)) (d : Nat) (x : Operand), opR E ⟨fr, bx⟩ d (.move x) = .val (ev fr x) []) ∧
  (∀ (E : Env) (fr : List (Nat × AV)) (bx : List (Nat × Box)) (d : Nat) (x : Operand), opR E ⟨fr, bx⟩ d (.assign x) = .val (ev fr x) []) ∧
  (∀ (E : Env) (fr : List (Nat × AV)) (bx : List (Nat × Box)) (d : Nat) (c a b : Operand), opR E ⟨fr, bx⟩ d (.pick c a b) = pickR (ev fr a) (ev fr b) (ev fr c)) ∧
  (∀ (E : Env) (fr : List (Nat × AV)) (bx : List (Nat × Box)) (d : Nat) (t : Nat), opR E ⟨fr, bx⟩ d (.alloc t) = allocAV t d (lookB d bx) (E t)) ∧
  (∀ (E : Env) (fr : List (Nat × AV)) (bx : List (Nat × Box)) (d : Nat) (t : Nat) (x : Operand), opR E ⟨fr, bx⟩ d (.box t x) = boxAV d (lookB d bx) (ev fr x)) ∧
  (∀ (E : Env) (fr : List (Nat × AV)) (bx : List (Nat × Box)) (d : Nat) (t : Nat) (ps : List (Nat × Operand)), opR E ⟨fr, bx⟩ d (.build t ps.toArray) = buildAV E bx fr ps (E t)) ∧
  (∀ (E : Env) (fr : List (Nat × AV)) (bx : List (Nat × Box)) (d : Nat) (t n : Nat) (ps : List (Nat × Operand)), opR E ⟨fr, bx⟩ d (.buildSlice t n ps.toArray) = bslAV E bx fr d n ps (E t)) ∧
  (∀ (E : Env) (fr : List (Nat × AV)) (bx : List (Nat × Box)) (d : Nat) (t : Nat) (p : Operand), opR E ⟨fr, bx⟩ d (.load t p) = loadAV bx (ev fr p) (E t)) ∧
  (∀ (E : Env) (fr : List (Nat × AV)) (bx : List (Nat × Box)) (d : Nat) (t : Nat) (p x : Operand), opR E ⟨fr, bx⟩ d (.store t p x) = storeAV E bx (ev fr x) (ev fr p) (E t)) ∧
  (∀ (E : Env) (fr : List (Nat × AV)) (bx : List (Nat × Box)) (d : Nat) (x : Operand), opR E ⟨fr, bx⟩ d (.nilCheck x) = chkA bx (ev fr x)) ∧
  (∀ (E : Env) (fr : List (Nat × AV)) (bx : List (Nat × Box)) (d : Nat) (t : Nat) (x i : Operand), opR E ⟨fr, bx⟩ d (.indexAddr t x i) = indexAddrAV E bx (ev fr x) (ev fr i) (E t)) ∧
  (∀ (E : Env) (fr : List (Nat × AV)) (bx : List (Nat × Box)) (d : Nat) (t : Nat) (x i : Operand), opR E ⟨fr, bx⟩ d (.index t x i) = indexAV (ev fr x) (ev fr i) (E t)) ∧
  (∀ (E : Env) (fr : List (Nat × AV)) (bx : List (Nat × Box)) (d : Nat) (t f : Nat) (x : Operand), opR E ⟨fr, bx⟩ d (.fieldAddr t x f) = fieldAddrAV bx (ev fr x) f (E t)) ∧
  (∀ (E : Env) (fr : List (Nat × AV)) (bx : List (Nat × Box)) (d : Nat) (t f : Nat) (x : Operand), opR E ⟨fr, bx⟩ d (.field t x f) = fieldAV E (ev fr x) f (E t)) ∧
  (∀ (E : Env) (fr : List (Nat × AV)) (bx : List (Nat × Box)) (d : Nat) (t : Nat) (x : Operand) (lo hi : Option Operand), opR E ⟨fr, bx⟩ d (.slice t x lo hi none) = sliceAV E bx (lo.map (ev fr)) (hi.map (ev fr)) (froz bx (ev fr x)) (E t)) ∧
  (∀ (E : Env) (fr : List (Nat × AV)) (bx : List (Nat × Box)) (d : Nat) (t t' : Nat) (op : BinOp) (x y : Operand), opR E ⟨fr, bx⟩ d (.binOp op t x y t') = binAV E op (E t) (ev fr x) (ev fr y)) ∧
  (∀ (E : Env) (fr : List (Nat × AV)) (bx : List (Nat × Box)) (d : Nat) (t : Nat) (x : Operand), opR E ⟨fr, bx⟩ d (.unOp .not t x) = notR (ev fr x)) ∧
  (∀ (E : Env) (fr : List (Nat × AV)) (bx : List (Nat × Box)) (d : Nat) (t t' : Nat) (x : Operand), opR E ⟨fr, bx⟩ d (.convert t t' x) = convX E bx (ev fr x) (E t') (E t)) ∧
  (∀ (E : Env) (fr : List (Nat × AV)) (bx : List (Nat × Box)) (d : Nat) (t : Nat) (l c : Operand), opR E ⟨fr, bx⟩ d (.makeSlice t l c) = mkAV E bx d (ev fr l) (ev fr c) (E t)) ∧
  (∀ (E : Env) (fr : List (Nat × AV)) (bx : List (Nat × Box)) (d : Nat) (i : Nat) (x : Operand), opR E ⟨fr, bx⟩ d (.extract x i) = extR i (ev fr x)) ∧
  (∀ (E : Env) (fr : List (Nat × AV)) (bx : List (Nat × Box)) (d : Nat) (b : Builtin) (l : List Operand) (ts : List Nat), opR E ⟨fr, bx⟩ d (.call ⟨.builtin b, l.toArray, ts.toArray⟩) = bltR E bx d b (l.map (ev fr)) ts) ∧
  (∀ (E : Env) (fr : List (Nat × AV)) (bx : List (Nat × Box)) (d : Nat) (f : Operand) (l : List Operand) (ts : Array Nat), opR E ⟨fr, bx⟩ d (.call ⟨.value f, l.toArray, ts⟩) = callR bx (l.map (ev fr)) (ev fr f)) ∧
  (∀ (a b : AV) (t : Bool), pickR a b (.c (.sc (.bool t))) = .br t (.val a []) (.val b [])) ∧
  (∀ (t : Nat) (d : Nat) (b : Box) (ti : TI), allocAV t d b (some ti) = newB d (ti.zero.map (zcell t)) b) ∧
  (∀ (t : Nat) (v : Value), zcell t v = cond (t == 70) (zp70 v) (.c (.sc v))) ∧
  (zp70 (.pointer none) = .zp 70) ∧
  (∀ (A : Option Addr) (n c : Nat), zp70 (.slice A n c) = .c (.sc (.slice A n c))) ∧
  (∀ (d : Nat) (b : Box) (x : AV), boxAV d b x = cond (okCells x) (newB d (cellsOf x) b) .bad) ∧
  (∀ (d : Nat) (cs : List AV), newB d cs .dead = .val (.bp d 0) [(d, .cells cs)]) ∧
  (∀ (d : Nat) (cs cs' : List AV), newB d cs (.cells cs') = .bad) ∧
  (∀ (ds : List D), cellsOf (.ag ds) = ds.map .c) ∧
  (∀ (x : D), cellsOf (.c x) = [.c x]) ∧
  (∀ (id ver : Nat), cellsOf (.osl id ver) = [.osl id ver]) ∧
  (∀ (id ver : Nat), cellsOf (.bp id ver) = [.bp id ver]) ∧
  (∀ (ds : List D), cellsOf (.ip ds) = [.ip ds]) ∧
  (∀ (f : Nat) (cs : List AV), cellsOf (.fn f cs) = [.fn f cs]) ∧
  (∀ (ds : List D), okCells (.ag ds) = true) ∧
  (∀ (x : D), okCells (.c x) = true) ∧
  (∀ (id ver : Nat), okCells (.osl id ver) = true) ∧
  (∀ (id ver : Nat), okCells (.bp id ver) = true) ∧
  (∀ (ds : List D), okCells (.ip ds) = true) ∧
  (∀ (f : Nat) (cs : List AV), okCells (.fn f cs) = true) ∧
  (∀ (vs : List AV), okCells (.agv vs) = cellsTop vs) := by
  refine ⟨?_, ?_, ?_, ?_, ?_, ?_, ?_, ?_, ?_, ?_, ?_, ?_, ?_, ?_, ?_, ?_, ?_, ?_, ?_, ?_, ?_, ?_, ?_, ?_, ?_, ?_, ?_, ?_, ?_, ?_, ?_, ?_, ?_, ?_, ?_, ?_, ?_, ?_, ?_, ?_, ?_, ?_, ?_, ?_, ?_, ?_, ?_, ?_, ?_, ?_, ?_, ?_, ?_, ?_, ?_, ?_, ?_, ?_, ?_, ?_⟩ <;> intros <;> first | rfl | (rename_i v _ _ _ _ _ _; cases v <;> rfl) | (rename_i v _ _ _; cases v <;> rfl) | (rename_i v _ _; cases v <;> rfl)

theorem V3 : (∀ (vs : List AV), cellsOf (.agv vs) = vs) ∧
  (∀ (E : Env) (bx : List (Nat × Box)) (fr : List (Nat × AV)) (ps : List (Nat × Operand)) (ti : TI), buildAV E bx fr ps (some ti) = cond (kAgg ti.kind) (fillCs E (partsOf E bx fr ti.kind ps) (ti.zero.map fun v => .c (.sc v))) .bad) ∧
  (∀ (E : Env) (bx : List (Nat × Box)) (fr : List (Nat × AV)) (kd : TK), partsOf E bx fr kd [] = []) ∧
  (∀ (E : Env) (bx : List (Nat × Box)) (fr : List (Nat × AV)) (kd : TK) (i : Nat) (x : Operand) (r : List (Nat × Operand)), partsOf E bx fr kd ((i, x) :: r) = (placeOf E kd i, partC bx (ev fr x)) :: partsOf E bx fr kd r) ∧
  (∀ (E : Env) (fs : List (Nat × Nat)) (i : Nat), placeOf E (.struct fs) i = fs[i]?) ∧
  (∀ (E : Env) (n e i : Nat), placeOf E (.array n e) i = some (i * szOf (E e), e)) ∧
  (∀ (ti : TI), szOf (some ti) = ti.size) ∧
  (∀ (E : Env) (cs : List AV), fillCs E [] cs = fillEnd cs (allD cs)) ∧
  (∀ (E : Env) (o t : Nat) (xs : List AV) (r : List (Option (Nat × Nat) × Option (List AV)) ) (cs : List AV), fillCs E ((some (o, t), some xs) :: r) cs = cond (xs.length == szOf (E t) && decide (o + xs.length ≤ cs.length)) (fillCs E r (spliceA cs xs o)) .bad) ∧
  (∀ (cs : List AV) (ds : List D), fillEnd cs (some ds) = .val (.ag ds) []) ∧
  (∀ (cs : List AV), fillEnd cs none = .val (.agv cs) []) ∧
  (∀ (bx : List (Nat × Box)) (ds : List D), partC bx (.ag ds) = some (ds.map .c)) ∧
  (∀ (bx : List (Nat × Box)), partC bx (.c (.sc (.slice none 0 0))) = some [.c (.sl [])]) ∧
  (∀ (bx : List (Nat × Box)) (k : IntKind) (n : Int), partC bx (.c (.sc (.int k n))) = some [.c (.sc (.int k n))]) ∧
  (∀ (bx : List (Nat × Box)) (b : Bool), partC bx (.c (.sc (.bool b))) = some [.c (.sc (.bool b))]) ∧
  (∀ (bx : List (Nat × Box)) (b : ByteArray), partC bx (.c (.sc (.string b))) = some [.c (.sc (.string b))]) ∧
  (∀ (bx : List (Nat × Box)) (xs : List (List D)), partC bx (.c (.sl xs)) = some [.c (.sl xs)]) ∧
  (∀ (bx : List (Nat × Box)) (id ver : Nat), partC bx (.osl id ver) = partB id ver (lookB id bx)) ∧
  (∀ (bx : List (Nat × Box)) (id off : Nat), partC bx (.bp id off) = some [.bp id off]) ∧
  (∀ (bx : List (Nat × Box)) (id : Nat), partC bx (.mp id) = some [.mp id]) ∧
  (∀ (bx : List (Nat × Box)) (ds : List D), partC bx (.ip ds) = some [.ip ds]) ∧
  (∀ (bx : List (Nat × Box)) (vs : List AV), partC bx (.agv vs) = cond (cellsTop vs) (some vs) none) ∧
  (∀ (id ver e v : Nat) (xs : List (List D)), partB id ver (.arr e v xs) = cond (v == ver) (some [.osl id ver]) none) ∧
  (∀ (id ver e v r : Nat) (rows : List (List (List D)) ), partB id ver (.nest e v r none rows) = cond (v == ver) (some [.osl id ver]) none) ∧
  (∀ (id ver v : Nat) (xs : List (List D)), partB id ver (.frz v xs) = cond (v == ver) (some [.c (.sl xs)]) none) ∧
  (∀ (ds xs : List D) (off : Nat), splice ds xs off = ds.take off ++ (xs ++ ds.drop (off + xs.length))) ∧
  (∀ (cs xs : List AV) (off : Nat), spliceA cs xs off = cs.take off ++ (xs ++ cs.drop (off + xs.length))) ∧
  (∀ (bx : List (Nat × Box)) (fr : List (Nat × AV)), rowsOf bx fr [] = []) ∧
  (∀ (bx : List (Nat × Box)) (fr : List (Nat × AV)) (i : Nat) (x : Operand) (r : List (Nat × Operand)), rowsOf bx fr ((i, x) :: r) = (i, toDs bx (ev fr x)) :: rowsOf bx fr r) ∧
  (∀ (d e sz n k : Nat) (rows : List (List D)) (u : Upd), fillRows d e sz n [] k rows u = cond (k == n) (.val (.osl d 0) ((d, .arr e 0 rows) :: u)) .bad) ∧
  (∀ (d e sz n i k : Nat) (xs : List D) (u' : Upd) (r : List (Nat × Option (List D × Upd)) ) (rows : List (List D)) (u : Upd), fillRows d e sz n ((i, some (xs, u')) :: r) k rows u = cond (i == k && (xs.length == sz)) (fillRows d e sz n r (k + 1) (rows ++ [xs]) (u' ++ u)) .bad) ∧
  (∀ (E : Env) (bx : List (Nat × Box)) (fr : List (Nat × AV)) (d n : Nat) (ps : List (Nat × Operand)) (ti : TI), bslAV E bx fr d n ps (some ti) = bslK E bx fr d n ps ti.own ti.kind) ∧
  (∀ (E : Env) (bx : List (Nat × Box)) (fr : List (Nat × AV)) (d n e : Nat) (ps : List (Nat × Operand)) (o : Bool), bslK E bx fr d n ps o (.slice e) = bslE bx fr d e n ps o (lookB d bx) (E e)) ∧
  (∀ (bx : List (Nat × Box)) (fr : List (Nat × AV)) (d n e : Nat) (ps : List (Nat × Operand)) (o : Bool) (te : TI), bslE bx fr d e n ps o .dead (some te) = cond (decide (n * te.size ≤ 16777216)) (bslO bx fr d e n ps te o) .bad) ∧
  (∀ (bx : List (Nat × Box)) (fr : List (Nat × AV)) (d n e : Nat) (ps : List (Nat × Operand)) (te : TI), bslO bx fr d e n ps te false = fillRows d e te.size n (rowsOf bx fr ps) 0 [] []) ∧
  (∀ (bx : List (Nat × Box)) (fr : List (Nat × AV)) (d n e : Nat) (ps : List (Nat × Operand)) (te : TI), bslO bx fr d e n ps te true = bslN d e n te.size bx fr ps te.kind) ∧
  (∀ (bx : List (Nat × Box)) (fr : List (Nat × AV)) (d n e e' sz : Nat) (ps : List (Nat × Operand)), bslN d e n sz bx fr ps (.slice e') = cond (sz == 1 && allOwn (nestsOf e' bx fr ps)) (fillNest d e n (nestsOf e' bx fr ps) 0 [] []) (fillRows d e sz n (rowsOf bx fr ps) 0 [] [])) ∧
  (allOwn [] = true) ∧
  (∀ (i : Nat) (p : List (List D) × (Nat × Box)) (r : List (Nat × Option (List (List D) × (Nat × Box)) )), allOwn ((i, some p) :: r) = allOwn r) ∧
  (∀ (i : Nat) (r : List (Nat × Option (List (List D) × (Nat × Box)) )), allOwn ((i, none) :: r) = false) ∧
  (∀ (bx : List (Nat × Box)) (e' : Nat) (x : D), rowA e' bx (.c x) = none) ∧
  (∀ (bx : List (Nat × Box)) (e' id rv p : Nat), rowA e' bx (.fsl id rv p) = none) ∧
  (∀ (e' id ver v : Nat) (xs : List (List D)), rowO e' id ver (.frz v xs) = none) ∧
  (∀ (bx : List (Nat × Box)) (fr : List (Nat × AV)) (e' : Nat), nestsOf e' bx fr [] = []) ∧
  (∀ (bx : List (Nat × Box)) (fr : List (Nat × AV)) (e' i : Nat) (x : Operand) (r : List (Nat × Operand)), nestsOf e' bx fr ((i, x) :: r) = (i, rowA e' bx (ev fr x)) :: nestsOf e' bx fr r) ∧
  (∀ (d e n k : Nat) (rows : List (List (List D)) ) (u : Upd), fillNest d e n [] k rows u = cond (k == n) (.val (.osl d 0) ((d, .nest e 0 0 none rows) :: u)) .bad) ∧
  (∀ (d e n i k : Nat) (xs : List (List D)) (pp : Nat × Box) (r : List (Nat × Option (List (List D) × (Nat × Box)) )) (rows : List (List (List D)) ) (u : Upd), fillNest d e n ((i, some (xs, pp)) :: r) k rows u = cond (i == k && notIn pp.1 u) (fillNest d e n r (k + 1) (rows ++ [xs]) (u ++ [pp])) .bad) ∧
  (∀ (bx : List (Nat × Box)) (e' id ver : Nat), rowA e' bx (.osl id ver) = rowO e' id ver (lookB id bx)) ∧
  (∀ (e' id ver e v : Nat) (xs : List (List D)), rowO e' id ver (.arr e v xs) = cond (v == ver && e == e') (some (xs, (id, .arr e (ver + 1) []))) none) ∧
  (∀ (E : Env) (bx : List (Nat × Box)) (d : Nat) (l c : AV) (ti : TI), mkAV E bx d l c (some ti) = mkK E bx d l c ti.own ti.kind) ∧
  (∀ (E : Env) (bx : List (Nat × Box)) (d e : Nat) (l c : AV) (ow : Bool), mkK E bx d l c ow (.slice e) = mkE d e (lookB d bx) l c ow (E e)) ∧
  (∀ (d e : Nat) (k k' : IntKind) (n m : Int) (te : TI) (ow : Bool), mkE d e .dead (.c (.sc (.int k n))) (.c (.sc (.int k' m))) ow (some te) = .ob (n = m ∧ 0 ≤ n ∧ n.toNat * te.bytes ≤ 140737488355328) (mkB d e n.toNat te ow)) ∧
  (∀ (d e n : Nat) (te : TI), mkB d e n te false = .val (.osl d 0) [(d, .arr e 0 (List.replicate n (te.zero.map zD)))]) ∧
  (∀ (d e n : Nat) (te : TI), mkB d e n te true = cond (isSlK te.kind && isNilZ te.zero) (.val (.osl d 0) [(d, .nest e 0 0 none (List.replicate n []))]) .bad) ∧
  (∀ (e : Nat), isSlK (.slice e) = true) ∧
  (isNilZ [.slice none 0 0] = true) ∧
  (zD (.slice none 0 0) = .sl []) ∧
  (∀ (k : IntKind) (n : Int), zD (.int k n) = .sc (.int k n)) ∧
  (∀ (b : Bool), zD (.bool b) = .sc (.bool b)) ∧
  (∀ (b : ByteArray), zD (.string b) = .sc (.string b)) := by
  refine ⟨?_, ?_, ?_, ?_, ?_, ?_, ?_, ?_, ?_, ?_, ?_, ?_, ?_, ?_, ?_, ?_, ?_, ?_, ?_, ?_, ?_, ?_, ?_, ?_, ?_, ?_, ?_, ?_, ?_, ?_, ?_, ?_, ?_, ?_, ?_, ?_, ?_, ?_, ?_, ?_, ?_, ?_, ?_, ?_, ?_, ?_, ?_, ?_, ?_, ?_, ?_, ?_, ?_, ?_, ?_, ?_, ?_, ?_, ?_, ?_⟩ <;> intros <;> first | rfl | (rename_i v _ _ _ _ _ _; cases v <;> rfl) | (rename_i v _ _ _; cases v <;> rfl) | (rename_i v _ _; cases v <;> rfl)

theorem V4 : (∀ (bx : List (Nat × Box)), toD bx (.c (.sc (.slice none 0 0))) = some (.sl [], [])) ∧
  (∀ (bx : List (Nat × Box)) (k : IntKind) (n : Int), toD bx (.c (.sc (.int k n))) = some (.sc (.int k n), [])) ∧
  (∀ (bx : List (Nat × Box)) (b : Bool), toD bx (.c (.sc (.bool b))) = some (.sc (.bool b), [])) ∧
  (∀ (bx : List (Nat × Box)) (b : ByteArray), toD bx (.c (.sc (.string b))) = some (.sc (.string b), [])) ∧
  (∀ (bx : List (Nat × Box)) (xs : List (List D)), toD bx (.c (.sl xs)) = some (.sl xs, [])) ∧
  (∀ (bx : List (Nat × Box)) (id ver : Nat), toD bx (.osl id ver) = toDB id ver (lookB id bx)) ∧
  (∀ (id ver e v : Nat) (xs : List (List D)), toDB id ver (.arr e v xs) = cond (v == ver) (some (.sl xs, [(id, .frz v xs)])) none) ∧
  (∀ (id ver v : Nat) (xs : List (List D)), toDB id ver (.frz v xs) = cond (v == ver) (some (.sl xs, [])) none) ∧
  (∀ (id ver e v r : Nat) (rows : List (List (List D)) ), toDB id ver (.nest e v r none rows) = cond (v == ver) (some (.sl (rowsD rows), [(id, .frz v (rowsD rows))])) none) ∧
  (∀ (id rv p e v r : Nat) (rows : List (List (List D)) ), toDF id rv p (.nest e v r none rows) = cond (r == rv) (some (.sl (rows.getD p []), [(id, .frz v (rowsD rows))])) none) ∧
  (∀ (bx : List (Nat × Box)) (id rv p : Nat), toD bx (.fsl id rv p) = toDF id rv p (lookB id bx)) ∧
  (∀ (bx : List (Nat × Box)) (id off : Nat), toD bx (.bp id off) = none) ∧
  (∀ (bx : List (Nat × Box)), toDL bx [] = some ([], [])) ∧
  (∀ (bx : List (Nat × Box)) (v : AV) (r : List AV), toDL bx (v :: r) = and2D (toD bx v) (toDL bx r)) ∧
  (∀ (d : D) (u u' : Upd) (ds : List D), and2D (some (d, u)) (some (ds, u')) = some (d :: ds, u ++ u')) ∧
  (∀ (o : Option (List D × Upd)), and2D none o = none) ∧
  (∀ (bx : List (Nat × Box)) (vs : List AV), toDs bx (.agv vs) = toDL bx vs) ∧
  (∀ (bx : List (Nat × Box)) (id rv p : Nat), toDs bx (.fsl id rv p) = one1 (toD bx (.fsl id rv p))) ∧
  (∀ (bx : List (Nat × Box)) (ds : List D), toDs bx (.ag ds) = some (ds, [])) ∧
  (∀ (bx : List (Nat × Box)) (x : D), toDs bx (.c x) = one1 (toD bx (.c x))) ∧
  (∀ (bx : List (Nat × Box)) (id ver : Nat), toDs bx (.osl id ver) = one1 (toD bx (.osl id ver))) ∧
  (∀ (x : D) (u : Upd), one1 (some (x, u)) = some ([x], u)) ∧
  (∀ (bx : List (Nat × Box)) (p : AV) (ti : TI), loadAV bx p (some ti) = loadP ti bx p) ∧
  (∀ (ti : TI) (bx : List (Nat × Box)) (ds : List D), loadP ti bx (.ip ds) = loadD ti ds) ∧
  (∀ (ti : TI) (bx : List (Nat × Box)) (id off : Nat), loadP ti bx (.bp id off) = loadB ti off (lookB id bx)) ∧
  (∀ (ti : TI) (bx : List (Nat × Box)) (id ver i sz off : Nat), loadP ti bx (.op id ver i sz off) = loadO ti id ver i off (lookB id bx)) ∧
  (∀ (ti : TI) (bx : List (Nat × Box)) (id rv p j sz off : Nat), loadP ti bx (.fop id rv p j sz off) = loadF ti rv p j off (lookB id bx)) ∧
  (∀ (ti : TI) (off : Nat) (cs : List AV), loadB ti off (.cells cs) = loadC ti (cs.drop off)) ∧
  (∀ (ti : TI) (id ver i off e v r : Nat) (rows : List (List (List D)) ), loadO ti id ver i off (.nest e v r none rows) = cond (v == ver && (off == 0 && !kAgg ti.kind)) (.ob (i < rows.length) (.val (.fsl id r i) [])) .bad) ∧
  (∀ (ti : TI) (rv p j off e v r : Nat) (dt : Option Nat) (rows : List (List (List D)) ), loadF ti rv p j off (.nest e v r dt rows) = cond (r == rv) (.ob (j < (rows.getD p []).length) (loadD ti (((rows.getD p []).getD j []).drop off))) .bad) ∧
  (∀ (ti : TI) (id ver i off e v : Nat) (xs : List (List D)), loadO ti id ver i off (.arr e v xs) = cond (v == ver) (.ob (i < xs.length) (loadD ti ((xs.getD i []).drop off))) .bad) ∧
  (∀ (n b : Nat) (z : List Value) (fs : List (Nat × Nat)) (ds : List D) (ow : Bool), loadD ⟨n, b, z, .struct fs, ow⟩ ds = agR n (some (ds.take n))) ∧
  (∀ (n b m e : Nat) (z : List Value) (ds : List D) (ow : Bool), loadD ⟨n, b, z, .array m e, ow⟩ ds = agR n (some (ds.take n))) ∧
  (∀ (n b : Nat) (z : List Value) (k : IntKind) (ds : List D) (ow : Bool), loadD ⟨n, b, z, .int k, ow⟩ ds = headR ds) ∧
  (∀ (n b : Nat) (z : List Value) (ds : List D) (ow : Bool), loadD ⟨n, b, z, .str, ow⟩ ds = headR ds) ∧
  (∀ (n b : Nat) (z : List Value) (ds : List D) (ow : Bool), loadD ⟨n, b, z, .bool, ow⟩ ds = headR ds) ∧
  (∀ (n b : Nat) (z : List Value) (ds : List D) (ow : Bool), loadD ⟨n, b, z, .other, ow⟩ ds = headR ds) ∧
  (∀ (n b e : Nat) (z : List Value) (ds : List D) (ow : Bool), loadD ⟨n, b, z, .slice e, ow⟩ ds = headR ds) ∧
  (∀ (n b : Nat) (z : List Value) (fs : List (Nat × Nat)) (ds : List AV) (ow : Bool), loadC ⟨n, b, z, .struct fs, ow⟩ ds = agcR n (ds.take n) (allD (ds.take n))) ∧
  (∀ (n b m e : Nat) (z : List Value) (ds : List AV) (ow : Bool), loadC ⟨n, b, z, .array m e, ow⟩ ds = agcR n (ds.take n) (allD (ds.take n))) ∧
  (∀ (n b : Nat) (z : List Value) (k : IntKind) (ds : List AV) (ow : Bool), loadC ⟨n, b, z, .int k, ow⟩ ds = headA ds) ∧
  (∀ (n b : Nat) (z : List Value) (ds : List AV) (ow : Bool), loadC ⟨n, b, z, .str, ow⟩ ds = headA ds) ∧
  (∀ (n b : Nat) (z : List Value) (ds : List AV) (ow : Bool), loadC ⟨n, b, z, .bool, ow⟩ ds = headA ds) ∧
  (∀ (n b : Nat) (z : List Value) (ds : List AV) (ow : Bool), loadC ⟨n, b, z, .other, ow⟩ ds = headA ds) ∧
  (∀ (n b e : Nat) (z : List Value) (ds : List AV) (ow : Bool), loadC ⟨n, b, z, .slice e, ow⟩ ds = headA ds) ∧
  (allD [] = some []) ∧
  (∀ (id ver : Nat) (r : List AV), allD (.osl id ver :: r) = none) ∧
  (∀ (id off : Nat) (r : List AV), allD (.bp id off :: r) = none) ∧
  (∀ (id : Nat) (r : List AV), allD (.mp id :: r) = none) ∧
  (∀ (ds : List D) (r : List AV), allD (.ip ds :: r) = none) ∧
  (∀ (f : Nat) (cs : List AV) (r : List AV), allD (.fn f cs :: r) = none) ∧
  (∀ (n : Nat) (cs : List AV) (ds : List D), agcR n cs (some ds) = agR n (some ds)) ∧
  (∀ (n : Nat) (cs : List AV), agcR n cs none = cond (cs.length == n && cellsTop cs) (.val (.agv cs) []) .bad) ∧
  (∀ (x : D) (r : List AV), allD (.c x :: r) = (allD r).map (x :: ·)) ∧
  (∀ (n : Nat) (ds : List D), agR n (some ds) = cond (ds.length == n) (.val (.ag ds) []) .bad) ∧
  (∀ (x : D) (r : List D), headR (x :: r) = .val (.c x) []) ∧
  (∀ (x : AV) (r : List AV), headA (x :: r) = .val x []) ∧
  (∀ (E : Env) (bx : List (Nat × Box)) (x p : AV) (ti : TI), storeAV E bx x p (some ti) = storeT E bx x ti.size p) ∧
  (∀ (E : Env) (bx : List (Nat × Box)) (x : AV) (sz id off : Nat), storeT E bx x sz (.bp id off) = cond (okCells x) (storeB id off sz (cellsOf x) (lookB id bx)) .bad) ∧
  (∀ (E : Env) (bx : List (Nat × Box)) (x : AV) (sz id ver i es off : Nat), storeT E bx x sz (.op id ver i es off) = storeX E bx id ver i off sz x (lookB id bx)) := by
  refine ⟨?_, ?_, ?_, ?_, ?_, ?_, ?_, ?_, ?_, ?_, ?_, ?_, ?_, ?_, ?_, ?_, ?_, ?_, ?_, ?_, ?_, ?_, ?_, ?_, ?_, ?_, ?_, ?_, ?_, ?_, ?_, ?_, ?_, ?_, ?_, ?_, ?_, ?_, ?_, ?_, ?_, ?_, ?_, ?_, ?_, ?_, ?_, ?_, ?_, ?_, ?_, ?_, ?_, ?_, ?_, ?_, ?_, ?_, ?_, ?_⟩ <;> intros <;> first | rfl | (rename_i v _ _ _ _ _ _; cases v <;> rfl) | (rename_i v _ _ _; cases v <;> rfl) | (rename_i v _ _; cases v <;> rfl)

theorem V5 : (∀ (E : Env) (bx : List (Nat × Box)) (x : AV) (sz id rv p j es off : Nat), storeT E bx x sz (.fop id rv p j es off) = storeF id rv p j off sz (lookB id bx) (toDs bx x)) ∧
  (∀ (E : Env) (bx : List (Nat × Box)) (id ver i off sz e v : Nat) (x : AV) (xs : List (List D)), storeX E bx id ver i off sz x (.arr e v xs) = storeO id ver i off sz (.arr e v xs) (toDs bx x)) ∧
  (∀ (E : Env) (bx : List (Nat × Box)) (id ver i off sz e v r : Nat) (x : AV) (dt : Option Nat) (rows : List (List (List D)) ), storeX E bx id ver i off sz x (.nest e v r dt rows) = cond (v == ver && (off == 0 && sz == 1)) (storeN E bx id i e v r dt rows x) .bad) ∧
  (∀ (E : Env) (bx : List (Nat × Box)) (id i e v r id' rv' p : Nat) (dt : Option Nat) (rows : List (List (List D)) ), storeN E bx id i e v r dt rows (.fsl id' rv' p) = cond (id' == id && rv' == r) (.ob (i = p ∧ dtOK p dt) (.val .top [(id, .nest e v r none rows)])) .bad) ∧
  (∀ (E : Env) (bx : List (Nat × Box)) (id i e v r id' rv' p n : Nat) (dt : Option Nat) (rows : List (List (List D)) ), storeN E bx id i e v r dt rows (.cfl id' rv' p n) = cond (id' == id && (rv' == r && dt.isNone)) (.ob (i = p) (.val .top [(id, .nest e v (r + 1) none (rows.set p ((rows.getD p []).take n)))])) .bad) ∧
  (∀ (E : Env) (bx : List (Nat × Box)) (id i e v r id' ver' : Nat) (dt : Option Nat) (rows : List (List (List D)) ), storeN E bx id i e v r dt rows (.osl id' ver') = storeRo bx id i e v r rows (.osl id' ver') (slE (E e)) dt) ∧
  (∀ (bx : List (Nat × Box)) (id i e v r e' : Nat) (x : AV) (rows : List (List (List D)) ), storeRo bx id i e v r rows x (some e') none = storeR id i e v r rows (rowA e' bx x)) ∧
  (∀ (id i e v r : Nat) (rows : List (List (List D)) ) (xs : List (List D)) (pp : Nat × Box), storeR id i e v r rows (some (xs, pp)) = cond (pp.1 == id) .bad (.ob (i < rows.length) (.val .top [(id, .nest e v (r + 1) none (rows.set i xs)), pp]))) ∧
  (∀ (s b : Nat) (z : List Value) (o : Bool) (e : Nat), slE (some ⟨s, b, z, .slice e, o⟩) = some e) ∧
  ((none : Option Nat).isNone = true) ∧
  (∀ (p : Nat), dtOK p none = True) ∧
  (∀ (p q : Nat), dtOK p (some q) = (q = p)) ∧
  (∀ (id rv p j off sz e v r : Nat) (dt : Option Nat) (rows : List (List (List D)) ) (ds : List D) (u : Upd), storeF id rv p j off sz (.nest e v r dt rows) (some (ds, u)) = cond (r == rv && (ds.length == sz && notIn id u)) (.ob (j < (rows.getD p []).length ∧ off + ds.length ≤ ((rows.getD p []).getD j []).length) (.val .top ((id, .nest e v r dt (rows.set p ((rows.getD p []).set j (splice ((rows.getD p []).getD j []) ds off)))) :: u))) .bad) ∧
  (∀ (id off sz : Nat) (xs cs : List AV), storeB id off sz xs (.cells cs) = cond (xs.length == sz && decide (off + xs.length ≤ cs.length)) (.val .top [(id, .cells (spliceA cs xs off))]) .bad) ∧
  (∀ (id ver i off sz e v : Nat) (xs : List (List D)) (ds : List D) (u : Upd), storeO id ver i off sz (.arr e v xs) (some (ds, u)) = cond (v == ver && (ds.length == sz && notIn id u)) (.ob (i < xs.length ∧ off + ds.length ≤ (xs.getD i []).length) (.val .top ((id, .arr e v (xs.set i (splice (xs.getD i []) ds off))) :: u))) .bad) ∧
  (∀ (id : Nat), notIn id [] = true) ∧
  (∀ (id i : Nat) (b : Box) (r : Upd), notIn id ((i, b) :: r) = cond (id == i) false (notIn id r)) ∧
  (∀ (E : Env) (bx : List (Nat × Box)) (x i : AV) (ti : TI), indexAddrAV E bx x i (some ti) = indexK E bx x i ti.kind) ∧
  (∀ (E : Env) (bx : List (Nat × Box)) (x i : AV) (e : Nat), indexK E bx x i (.slice e) = indexE bx x i (E e)) ∧
  (∀ (E : Env) (bx : List (Nat × Box)) (x i : AV) (n e : Nat), indexK E bx x i (.array n e) = indexAE bx n x i (E e)) ∧
  (∀ (bx : List (Nat × Box)) (x i : AV) (ti : TI), indexE bx x i (some ti) = indexI bx ti.size x i) ∧
  (∀ (bx : List (Nat × Box)) (n : Nat) (x i : AV) (ti : TI), indexAE bx n x i (some ti) = indexAI bx ti.size n x i) ∧
  (∀ (bx : List (Nat × Box)) (sz : Nat) (x : AV) (k : IntKind) (n : Int), indexI bx sz x (.c (.sc (.int k n))) = indexX bx sz n x) ∧
  (∀ (bx : List (Nat × Box)) (sz len : Nat) (x : AV) (k : IntKind) (n : Int), indexAI bx sz len x (.c (.sc (.int k n))) = indexAP bx sz len n x) ∧
  (∀ (bx : List (Nat × Box)) (sz : Nat) (n : Int) (xs : List (List D)), indexX bx sz n (.c (.sl xs)) = .ob (0 ≤ n ∧ n.toNat < xs.length ∧ (xs.getD n.toNat []).length = sz) (.val (.ip (xs.getD n.toNat [])) [])) ∧
  (∀ (bx : List (Nat × Box)) (sz : Nat) (n : Int) (id ver : Nat), indexX bx sz n (.osl id ver) = .ob (0 ≤ n) (indexB id ver n.toNat sz (lookB id bx))) ∧
  (∀ (bx : List (Nat × Box)) (sz : Nat) (n : Int) (id rv p : Nat), indexX bx sz n (.fsl id rv p) = .ob (0 ≤ n) (indexF id rv p n.toNat sz (lookB id bx))) ∧
  (∀ (id ver n sz e v r : Nat) (dt : Option Nat) (rows : List (List (List D)) ), indexB id ver n sz (.nest e v r dt rows) = cond (v == ver) (.ob (n < rows.length ∧ sz = 1) (.val (.op id ver n sz 0) [])) .bad) ∧
  (∀ (id rv p n sz e v r : Nat) (dt : Option Nat) (rows : List (List (List D)) ), indexF id rv p n sz (.nest e v r dt rows) = cond (r == rv) (.ob (n < (rows.getD p []).length ∧ ((rows.getD p []).getD n []).length = sz) (.val (.fop id rv p n sz 0) [])) .bad) ∧
  (∀ (id ver n sz e v : Nat) (xs : List (List D)), indexB id ver n sz (.arr e v xs) = cond (v == ver) (.ob (n < xs.length ∧ (xs.getD n []).length = sz) (.val (.op id ver n sz 0) [])) .bad) ∧
  (∀ (id ver n sz v : Nat) (xs : List (List D)), indexB id ver n sz (.frz v xs) = cond (v == ver) (.ob (n < xs.length ∧ (xs.getD n []).length = sz) (.val (.ip (xs.getD n [])) [])) .bad) ∧
  (∀ (bx : List (Nat × Box)) (sz len : Nat) (n : Int) (id off : Nat), indexAP bx sz len n (.bp id off) = .ob (0 ≤ n ∧ n.toNat < len) (.val (.bp id (off + n.toNat * sz)) [])) ∧
  (∀ (bx : List (Nat × Box)) (sz len : Nat) (n : Int) (ds : List D), indexAP bx sz len n (.ip ds) = .ob (0 ≤ n ∧ n.toNat < len) (.val (.ip (ds.drop (n.toNat * sz))) [])) ∧
  (∀ (bx : List (Nat × Box)) (sz len id ver i es off : Nat) (n : Int), indexAP bx sz len n (.op id ver i es off) = curR ver (.ob (0 ≤ n ∧ n.toNat < len) (.val (.op id ver i es (off + n.toNat * sz)) [])) (lookB id bx)) ∧
  (∀ (ver e v : Nat) (r : R) (xs : List (List D)), curR ver r (.arr e v xs) = cond (v == ver) r .bad) ∧
  (∀ (bx : List (Nat × Box)) (x : AV) (f : Nat) (ti : TI), fieldAddrAV bx x f (some ti) = fieldK bx x f ti.kind) ∧
  (∀ (bx : List (Nat × Box)) (x : AV) (f : Nat) (fs : List (Nat × Nat)), fieldK bx x f (.struct fs) = fieldF bx x fs[f]?) ∧
  (∀ (bx : List (Nat × Box)) (x : AV) (o t : Nat), fieldF bx x (some (o, t)) = fieldP bx o x) ∧
  (∀ (bx : List (Nat × Box)) (off : Nat) (ds : List D), fieldP bx off (.ip ds) = .val (.ip (ds.drop off)) []) ∧
  (∀ (bx : List (Nat × Box)) (off id o : Nat), fieldP bx off (.bp id o) = .val (.bp id (o + off)) []) ∧
  (∀ (bx : List (Nat × Box)) (off id v i sz o : Nat), fieldP bx off (.op id v i sz o) = curR v (.val (.op id v i sz (o + off)) []) (lookB id bx)) ∧
  (∀ (E : Env) (x : AV) (f : Nat) (ti : TI), fieldAV E x f (some ti) = fieldVK E x f ti.kind) ∧
  (∀ (E : Env) (x : AV) (f : Nat) (fs : List (Nat × Nat)), fieldVK E x f (.struct fs) = fieldVF E x fs[f]?) ∧
  (∀ (E : Env) (x : AV) (o t : Nat), fieldVF E x (some (o, t)) = fieldVA o (E t) x) ∧
  (∀ (off : Nat) (ti : TI) (ds : List D), fieldVA off (some ti) (.ag ds) = loadD ti (ds.drop off)) ∧
  (∀ (off : Nat) (ti : TI) (vs : List AV), fieldVA off (some ti) (.agv vs) = loadC ti (vs.drop off)) ∧
  (∀ (bx : List (Nat × Box)) (id off : Nat), chkA bx (.bp id off) = .val (.bp id off) []) ∧
  (∀ (bx : List (Nat × Box)) (ds : List D), chkA bx (.ip ds) = .val (.ip ds) []) ∧
  (∀ (bx : List (Nat × Box)) (f : Nat) (cs : List AV), chkA bx (.fn f cs) = .val (.fn f cs) []) ∧
  (∀ (bx : List (Nat × Box)) (id ver i sz off : Nat), chkA bx (.op id ver i sz off) = chkO id ver i sz off (lookB id bx)) ∧
  (∀ (id ver i sz off e v : Nat) (xs : List (List D)), chkO id ver i sz off (.arr e v xs) = cond (v == ver) (.val (.op id ver i sz off) []) .bad) ∧
  (∀ (x i : AV) (ti : TI), indexAV x i (some ti) = indexVK x i ti.kind) ∧
  (∀ (b : ByteArray) (i : AV), indexVK (.c (.sc (.string b))) i .str = indexS b i) ∧
  (∀ (b : ByteArray) (k : IntKind) (n : Int), indexS b (.c (.sc (.int k n))) = .ob (0 ≤ n ∧ n.toNat < b.size) (iv (.int .u8 (byteAt b n.toNat)))) ∧
  (∀ (E : Env) (bx : List (Nat × Box)) (lo hi : Option AV) (x : AV) (ti : TI), sliceAV E bx lo hi x (some ti) = sliceK E bx lo hi x ti.kind) ∧
  (∀ (E : Env) (bx : List (Nat × Box)) (lo hi : Option AV) (x : AV) (e : Nat), sliceK E bx lo hi x (.slice e) = sliceE bx lo hi x (E e)) ∧
  (∀ (E : Env) (bx : List (Nat × Box)) (lo hi : Option AV) (x : AV), sliceK E bx lo hi x .str = sliceXs lo hi x) ∧
  (∀ (bx : List (Nat × Box)) (lo hi : Option AV) (x : AV) (ti : TI), sliceE bx lo hi x (some ti) = sliceXl bx lo hi ti.size x) ∧
  (∀ (bx : List (Nat × Box)) (lo hi : Option AV) (sz : Nat) (xs : List (List D)), sliceXl bx lo hi sz (.c (.sl xs)) = cutL sz xs (bound 0 lo) (bound xs.length hi)) ∧
  (∀ (bx : List (Nat × Box)) (lo hi : Option AV) (sz id ver : Nat), sliceXl bx lo hi sz (.osl id ver) = sliceO lo hi sz id ver (lookB id bx)) := by
  refine ⟨?_, ?_, ?_, ?_, ?_, ?_, ?_, ?_, ?_, ?_, ?_, ?_, ?_, ?_, ?_, ?_, ?_, ?_, ?_, ?_, ?_, ?_, ?_, ?_, ?_, ?_, ?_, ?_, ?_, ?_, ?_, ?_, ?_, ?_, ?_, ?_, ?_, ?_, ?_, ?_, ?_, ?_, ?_, ?_, ?_, ?_, ?_, ?_, ?_, ?_, ?_, ?_, ?_, ?_, ?_, ?_, ?_, ?_, ?_, ?_⟩ <;> intros <;> first | rfl | (rename_i v _ _ _ _ _ _; cases v <;> rfl) | (rename_i v _ _ _; cases v <;> rfl) | (rename_i v _ _; cases v <;> rfl)

theorem V6 : (∀ (bx : List (Nat × Box)) (lo hi : Option AV) (sz id rv p : Nat), sliceXl bx lo hi sz (.fsl id rv p) = sliceF lo hi id rv p (lookB id bx)) ∧
  (∀ (lo hi : Option AV) (sz id ver e v : Nat) (xs : List (List D)), sliceO lo hi sz id ver (.arr e v xs) = cond (v == ver) (cutO id ver sz xs (bound 0 lo) (bound xs.length hi)) .bad) ∧
  (∀ (lo hi : Option AV) (id rv p e v r : Nat) (dt : Option Nat) (rows : List (List (List D)) ), sliceF lo hi id rv p (.nest e v r dt rows) = cond (r == rv) (cutF id rv p (rows.getD p []).length (bound 0 lo) (bound (rows.getD p []).length hi)) .bad) ∧
  (∀ (id ver sz : Nat) (xs : List (List D)) (l h : Int), cutO id ver sz xs (some l) (some h) = .ob ((0 ≤ l ∧ l ≤ h ∧ h ≤ xs.length) ∧ AllLen sz xs) (.val (.csl id ver l.toNat (h.toNat - l.toNat) sz) [])) ∧
  (∀ (id rv p n : Nat) (h : Int), cutF id rv p n (some 0) (some h) = .ob (0 ≤ h ∧ h ≤ n) (.val (.cfl id rv p h.toNat) [])) ∧
  (∀ (bx : List (Nat × Box)) (id rv p : Nat), froz bx (.fsl id rv p) = .fsl id rv p) ∧
  (∀ (id ver e v : Nat) (xs : List (List D)), frozB id ver (.arr e v xs) = .osl id ver) ∧
  (∀ (bx : List (Nat × Box)) (d : D), froz bx (.c d) = .c d) ∧
  (∀ (bx : List (Nat × Box)) (id ver : Nat), froz bx (.osl id ver) = frozB id ver (lookB id bx)) ∧
  (∀ (id ver v : Nat) (xs : List (List D)), frozB id ver (.frz v xs) = cond (v == ver) (.c (.sl xs)) (.osl id ver)) ∧
  (∀ (lo hi : Option AV) (b : ByteArray), sliceXs lo hi (.c (.sc (.string b))) = cutS b (bound 0 lo) (bound b.size hi)) ∧
  (∀ (n : Nat), bound n none = some (n : Int)) ∧
  (∀ (m : Nat) (k : IntKind) (n : Int), bound m (some (.c (.sc (.int k n)))) = some n) ∧
  (∀ (sz : Nat) (xs : List (List D)) (l h : Int), cutL sz xs (some l) (some h) = .ob ((0 ≤ l ∧ l ≤ h ∧ h ≤ xs.length) ∧ AllLen sz xs) (.val (.c (.sl ((xs.take h.toNat).drop l.toNat))) [])) ∧
  (∀ (b : ByteArray) (l h : Int), cutS b (some l) (some h) = .ob (0 ≤ l ∧ l ≤ h ∧ h ≤ b.size) (iv (.string (b.extract l.toNat h.toNat)))) ∧
  (∀ (E : Env) (op : BinOp) (ti : Option TI) (k k' : IntKind) (a b : Int), binAV E op ti (.c (.sc (.int k a))) (.c (.sc (.int k' b))) = binI op k k' a b) ∧
  (∀ (E : Env) (op : BinOp) (ti : Option TI) (a b : ByteArray), binAV E op ti (.c (.sc (.string a))) (.c (.sc (.string b))) = strBin op a b) ∧
  (∀ (E : Env) (op : BinOp) (ti : Option TI) (a b : Bool), binAV E op ti (.c (.sc (.bool a))) (.c (.sc (.bool b))) = boolT op a b ti) ∧
  (∀ (E : Env) (op : BinOp) (ti : Option TI) (xs ys : List D), binAV E op ti (.ag xs) (.ag ys) = aggT E op xs ys ti) ∧
  (∀ (op : BinOp) (a b : Bool) (ti : TI), boolT op a b (some ti) = boolK op a b ti.kind) ∧
  (∀ (op : BinOp) (a b : Bool), boolK op a b .bool = boolBin op a b) ∧
  (∀ (a b : Bool), boolBin .eql a b = iv (.bool (a == b))) ∧
  (∀ (a b : Bool), boolBin .neq a b = iv (.bool (!(a == b)))) ∧
  (∀ (k k' : IntKind) (a b : Int), binI .shl k k' a b = shiftR .shl k a b) ∧
  (∀ (k k' : IntKind) (a b : Int), binI .shr k k' a b = shiftR .shr k a b) ∧
  (∀ (k : IntKind) (a b : Int), shiftR .shl k a b = .ob (0 ≤ b) (iv (.int k (k.wrap (a * 2 ^ (min b.toNat k.bits)))))) ∧
  (∀ (k : IntKind) (a b : Int), shiftR .shr k a b = .ob (0 ≤ b) (iv (.int k (a.fdiv (2 ^ (min b.toNat k.bits)))))) ∧
  (∀ (v : Value), iv v = .val (.c (.sc v)) []) ∧
  (∀ (a b : ByteArray), strBin .add a b = .ob (a.size + b.size ≤ 4611686018427387904) (iv (.string (a ++ b)))) ∧
  (∀ (a b : ByteArray), strBin .eql a b = iv (.bool (a.toList == b.toList))) ∧
  (∀ (a b : ByteArray), strBin .neq a b = iv (.bool (!(a.toList == b.toList)))) ∧
  (∀ (E : Env) (op : BinOp) (xs ys : List D) (ti : TI), aggT E op xs ys (some ti) = cond (kAgg ti.kind && (xs.length == ti.size && (ys.length == ti.size))) (aggBin E op xs ys (some ti)) .bad) ∧
  (∀ (E : Env) (xs ys : List D) (ti : Option TI), aggBin E .eql xs ys ti = eqR (eqT E 4 ti xs ys)) ∧
  (∀ (E : Env) (xs ys : List D) (ti : Option TI), aggBin E .neq xs ys ti = neR (eqT E 4 ti xs ys)) ∧
  (∀ (t : Bool), eqR (some t) = iv (.bool t)) ∧
  (∀ (t : Bool), neR (some t) = iv (.bool (!t))) ∧
  (∀ (fs : List (Nat × Nat)), kAgg (.struct fs) = true) ∧
  (∀ (n e : Nat), kAgg (.array n e) = true) ∧
  (∀ (E : Env) (n : Nat) (ti : TI) (xs ys : List D), eqT E (n + 1) (some ti) xs ys = eqK E (eqT E n) xs ys ti.kind) ∧
  (∀ (E : Env) (rec : Option TI → List D → List D → Option Bool) (xs ys : List D) (k : IntKind), eqK E rec xs ys (.int k) = eqI xs ys) ∧
  (∀ (E : Env) (rec : Option TI → List D → List D → Option Bool) (xs ys : List D), eqK E rec xs ys .str = eqSt xs ys) ∧
  (∀ (E : Env) (rec : Option TI → List D → List D → Option Bool) (xs ys : List D), eqK E rec xs ys .bool = eqB xs ys) ∧
  (∀ (E : Env) (rec : Option TI → List D → List D → Option Bool) (xs ys : List D) (fs : List (Nat × Nat)), eqK E rec xs ys (.struct fs) = eqFs E rec xs ys fs) ∧
  (∀ (E : Env) (rec : Option TI → List D → List D → Option Bool) (xs ys : List D) (m e : Nat), eqK E rec xs ys (.array m e) = eqAs (rec (E e)) (szOf (E e)) m xs ys) ∧
  (∀ (E : Env) (rec : Option TI → List D → List D → Option Bool) (xs ys : List D), eqFs E rec xs ys [] = some true) ∧
  (∀ (E : Env) (rec : Option TI → List D → List D → Option Bool) (xs ys : List D) (o t : Nat) (r : List (Nat × Nat)), eqFs E rec xs ys ((o, t) :: r) = and2 (rec (E t) ((xs.drop o).take (szOf (E t))) ((ys.drop o).take (szOf (E t)))) (eqFs E rec xs ys r)) ∧
  (∀ (rec : List D → List D → Option Bool) (sz : Nat) (xs ys : List D), eqAs rec sz 0 xs ys = some true) ∧
  (∀ (rec : List D → List D → Option Bool) (sz k : Nat) (xs ys : List D), eqAs rec sz (k + 1) xs ys = and2 (rec (xs.take sz) (ys.take sz)) (eqAs rec sz k (xs.drop sz) (ys.drop sz))) ∧
  (∀ (a b : Bool), and2 (some a) (some b) = some (a && b)) ∧
  (∀ (a b : ByteArray), eqSt [.sc (.string a)] [.sc (.string b)] = some (a.toList == b.toList)) ∧
  (∀ (a b : Bool), eqB [.sc (.bool a)] [.sc (.bool b)] = some (a == b)) ∧
  (∀ (x : AV) (ti si : TI), convAV x (some si) (some ti) = convK x ti.kind) ∧
  (∀ (E : Env) (bx : List (Nat × Box)) (x : AV) (dst : Option TI) (si : TI), convX E bx x dst (some si) = convY E bx x si dst si.kind) ∧
  (∀ (E : Env) (bx : List (Nat × Box)) (x : AV) (dst : Option TI) (si : TI) (e : Nat), convY E bx x si dst (.slice e) = convS E bx x e dst) ∧
  (∀ (E : Env) (bx : List (Nat × Box)) (x : AV) (dst : Option TI) (si : TI) (k : IntKind), convY E bx x si dst (.int k) = convAV x (some si) dst) ∧
  (∀ (E : Env) (bx : List (Nat × Box)) (x : AV) (dst : Option TI) (si : TI), convY E bx x si dst .str = convAV x (some si) dst) ∧
  (∀ (E : Env) (bx : List (Nat × Box)) (x : AV) (e : Nat) (ti : TI), convS E bx x e (some ti) = convSK E bx x e ti.kind) ∧
  (∀ (E : Env) (bx : List (Nat × Box)) (x : AV) (e : Nat), convSK E bx x e .str = u8T (bytesO (srcD bx x)) (E e)) ∧
  (∀ (r : R) (te : TI), u8T r (some te) = u8K r te.kind) ∧
  (∀ (r : R), u8K r (.int .u8) = r) := by
  refine ⟨?_, ?_, ?_, ?_, ?_, ?_, ?_, ?_, ?_, ?_, ?_, ?_, ?_, ?_, ?_, ?_, ?_, ?_, ?_, ?_, ?_, ?_, ?_, ?_, ?_, ?_, ?_, ?_, ?_, ?_, ?_, ?_, ?_, ?_, ?_, ?_, ?_, ?_, ?_, ?_, ?_, ?_, ?_, ?_, ?_, ?_, ?_, ?_, ?_, ?_, ?_, ?_, ?_, ?_, ?_, ?_, ?_, ?_, ?_, ?_⟩ <;> intros <;> first | rfl | (rename_i v _ _ _ _ _ _; cases v <;> rfl) | (rename_i v _ _ _; cases v <;> rfl) | (rename_i v _ _; cases v <;> rfl)

theorem V7 : (∀ (ys : List (List D)), bytesO (some ys) = strR (u8L ys)) ∧
  (∀ (ns : List Int), strR (some ns) = iv (.string (strOf ns))) ∧
  (u8L [] = some []) ∧
  (∀ (n : Int) (r : List (List D)), u8L ([.sc (.int .u8 n)] :: r) = (u8L r).map (n :: ·)) ∧
  (∀ (k k' : IntKind) (n : Int), convK (.c (.sc (.int k' n))) (.int k) = iv (.int k (k.wrap n))) ∧
  (∀ (b : ByteArray), convK (.c (.sc (.string b))) .str = iv (.string b)) ∧
  (∀ (t : Bool), notR (.c (.sc (.bool t))) = iv (.bool (!t))) ∧
  (∀ (i : Nat) (vs : List AV), extR i (.tp vs) = headA (vs.drop i)) ∧
  (∀ (E : Env) (bx : List (Nat × Box)) (d : Nat) (x : AV) (t : Nat), bltR E bx d .len [x] [t] = lenT bx x (E t)) ∧
  (∀ (E : Env) (bx : List (Nat × Box)) (d : Nat) (x y : AV) (t t' : Nat), bltR E bx d .append [x, y] [t, t'] = cond (t == t') (appAV E bx d t x y (E t)) (appStr E bx d x y (E t) (E t'))) ∧
  (∀ (E : Env) (bx : List (Nat × Box)) (d : Nat) (x y : AV) (t t' : Nat), bltR E bx d .copy [x, y] [t, t'] = cond (t == t') (cpAV E bx x y (E t)) .bad) ∧
  (∀ (E : Env) (bx : List (Nat × Box)) (x y : AV) (ti : TI), cpAV E bx x y (some ti) = cpK E bx x y ti.kind) ∧
  (∀ (E : Env) (bx : List (Nat × Box)) (x y : AV) (e : Nat), cpK E bx x y (.slice e) = cpE bx e x y (E e)) ∧
  (∀ (bx : List (Nat × Box)) (e : Nat) (x y : AV) (te : TI), cpE bx e x y (some te) = cond (te.size == 1) (cpX bx e (srcE bx y) x) .bad) ∧
  (∀ (bx : List (Nat × Box)) (t id ver : Nat) (src : Option (List (List D)) ), cpX bx t src (.osl id ver) = cpB t src id ver 0 none (lookB id bx)) ∧
  (∀ (bx : List (Nat × Box)) (t id ver lo n sz : Nat) (src : Option (List (List D)) ), cpX bx t src (.csl id ver lo n sz) = cpB t src id ver lo (some n) (lookB id bx)) ∧
  (∀ (t id ver lo e v : Nat) (src : Option (List (List D)) ) (xs : List (List D)), cpB t src id ver lo none (.arr e v xs) = cond (v == ver && e == t) (cpR id e ver lo xs.length xs src) .bad) ∧
  (∀ (t id ver lo n e v : Nat) (src : Option (List (List D)) ) (xs : List (List D)), cpB t src id ver lo (some n) (.arr e v xs) = cond (v == ver && e == t) (cpR id e ver lo n xs src) .bad) ∧
  (∀ (id e ver lo n : Nat) (xs ys : List (List D)), cpR id e ver lo n xs (some ys) = .ob (AllLen 1 ys ∧ lo + n ≤ xs.length) (.val (.c (.sc (.int .i64 ((min n ys.length : Nat) : Int)))) [(id, .arr e ver (laid xs ys lo n))])) ∧
  (∀ (bx : List (Nat × Box)) (id ver lo n sz : Nat), srcE bx (.csl id ver lo n sz) = srcC ver lo n (lookB id bx)) ∧
  (∀ (ver lo n e v : Nat) (xs : List (List D)), srcC ver lo n (.arr e v xs) = cond (v == ver) (some ((xs.drop lo).take n)) none) ∧
  (∀ (bx : List (Nat × Box)) (x : D), srcE bx (.c x) = srcD bx (.c x)) ∧
  (∀ (bx : List (Nat × Box)) (id ver : Nat), srcE bx (.osl id ver) = srcD bx (.osl id ver)) ∧
  (∀ (E : Env) (bx : List (Nat × Box)) (d : Nat) (x y : AV) (ts : List Nat), bltR E bx d .min [x, y] ts = minR x y) ∧
  (∀ (E : Env) (bx : List (Nat × Box)) (d : Nat) (x y : AV) (ts : List Nat), bltR E bx d .max [x, y] ts = maxR x y) ∧
  (∀ (k k' : IntKind) (a b : Int), minR (.c (.sc (.int k a))) (.c (.sc (.int k' b))) = iv (.int k (cond (decide (b < a)) b a))) ∧
  (∀ (k k' : IntKind) (a b : Int), maxR (.c (.sc (.int k a))) (.c (.sc (.int k' b))) = iv (.int k (cond (decide (a < b)) b a))) ∧
  (∀ (bx : List (Nat × Box)) (x : AV) (ti : TI), lenT bx x (some ti) = lenK bx x ti.kind) ∧
  (∀ (bx : List (Nat × Box)) (x : AV) (e : Nat), lenK bx x (.slice e) = lenSl bx x) ∧
  (∀ (bx : List (Nat × Box)) (x : AV), lenK bx x .str = lenSt x) ∧
  (∀ (bx : List (Nat × Box)) (xs : List (List D)), lenSl bx (.c (.sl xs)) = iv (.int .i64 xs.length)) ∧
  (∀ (bx : List (Nat × Box)), lenSl bx (.c (.sc (.slice none 0 0))) = iv (.int .i64 0)) ∧
  (∀ (bx : List (Nat × Box)) (id ver : Nat), lenSl bx (.osl id ver) = lenB ver (lookB id bx)) ∧
  (∀ (bx : List (Nat × Box)) (id rv p : Nat), lenSl bx (.fsl id rv p) = lenF rv p (lookB id bx)) ∧
  (∀ (ver e v r : Nat) (dt : Option Nat) (rows : List (List (List D)) ), lenB ver (.nest e v r dt rows) = cond (v == ver) (iv (.int .i64 rows.length)) .bad) ∧
  (∀ (rv p e v r : Nat) (dt : Option Nat) (rows : List (List (List D)) ), lenF rv p (.nest e v r dt rows) = cond (r == rv) (iv (.int .i64 (rows.getD p []).length)) .bad) ∧
  (∀ (ver e v : Nat) (xs : List (List D)), lenB ver (.arr e v xs) = cond (v == ver) (iv (.int .i64 xs.length)) .bad) ∧
  (∀ (ver v : Nat) (xs : List (List D)), lenB ver (.frz v xs) = cond (v == ver) (iv (.int .i64 xs.length)) .bad) ∧
  (∀ (b : ByteArray), lenSt (.c (.sc (.string b))) = iv (.int .i64 b.size)) ∧
  (∀ (E : Env) (bx : List (Nat × Box)) (d : Nat) (x y : AV) (tt : Nat) (ti : TI), appAV E bx d tt x y (some ti) = appK E bx d tt x y ti.kind) ∧
  (∀ (E : Env) (bx : List (Nat × Box)) (d : Nat) (x y : AV) (tt e : Nat), appK E bx d tt x y (.slice e) = appE bx d e tt x y (E e)) ∧
  (∀ (bx : List (Nat × Box)) (d e tt : Nat) (x y : AV) (te : TI), appE bx d e tt x y (some te) = appS bx te d e tt x y (nestA bx y)) ∧
  (∀ (bx : List (Nat × Box)) (d e tt : Nat) (x y : AV) (te : TI), appS bx te d e tt x y none = appX bx te.size te.bytes d e tt (srcD bx y) x) ∧
  (∀ (bx : List (Nat × Box)) (d e tt ny ey vy ry : Nat) (x y : AV) (te : TI) (ys : List (List (List D)) ), appS bx te d e tt x y (some (ny, (ey, (vy, (ry, ys))))) = cond (ey == e) (appNX bx te.bytes d e ny vy ry ys x) .bad) ∧
  (∀ (bx : List (Nat × Box)) (nb d e ny vy ry : Nat) (ys : List (List (List D)) ), appNX bx nb d e ny vy ry ys (.c (.sc (.slice none 0 0))) = appNN nb d e ny vy ry ys (lookB d bx)) ∧
  (∀ (bx : List (Nat × Box)) (nb d e ny vy ry id ver : Nat) (ys : List (List (List D)) ), appNX bx nb d e ny vy ry ys (.osl id ver) = appNO nb id e ver ny vy ry ys (lookB id bx)) ∧
  (∀ (nb d e ny vy ry : Nat) (ys : List (List (List D)) ), appNN nb d e ny vy ry ys .dead = cond (d == ny) .bad (.ob (ys.length * nb ≤ 140737488355328) (.val (.osl d 0) [(d, .nest e 0 0 none ys), (ny, .nest e (vy + 1) (ry + 1) none [])]))) ∧
  (∀ (nb id e ver ny vy ry e' v r : Nat) (ys rows : List (List (List D)) ), appNO nb id e ver ny vy ry ys (.nest e' v r none rows) = cond (v == ver && (e' == e && !(id == ny))) (.ob ((rows.length + ys.length) * nb ≤ 140737488355328) (.val (.osl id (ver + 1)) [(id, .nest e (ver + 1) (r + 1) none (rows ++ ys)), (ny, .nest e (vy + 1) (ry + 1) none [])])) .bad) ∧
  (∀ (bx : List (Nat × Box)) (x : D), nestA bx (.c x) = none) ∧
  (∀ (bx : List (Nat × Box)) (id ver : Nat), nestA bx (.osl id ver) = nestB ver id (lookB id bx)) ∧
  (∀ (bx : List (Nat × Box)) (id rv p : Nat), nestA bx (.fsl id rv p) = none) ∧
  (∀ (ver id e v : Nat) (xs : List (List D)), nestB ver id (.arr e v xs) = none) ∧
  (∀ (ver id v : Nat) (xs : List (List D)), nestB ver id (.frz v xs) = none) ∧
  (∀ (ver id e v r : Nat) (rows : List (List (List D)) ), nestB ver id (.nest e v r none rows) = cond (v == ver) (some (id, (e, (v, (r, rows))))) none) ∧
  (∀ (bx : List (Nat × Box)) (sz nb d e tt : Nat) (src : Option (List (List D)) ), appX bx sz nb d e tt src (.c (.sc (.slice none 0 0))) = appN sz nb d e src (lookB d bx)) ∧
  (∀ (bx : List (Nat × Box)) (sz nb d e tt id ver : Nat) (src : Option (List (List D)) ), appX bx sz nb d e tt src (.osl id ver) = appO sz nb id e ver src (lookB id bx)) ∧
  (∀ (bx : List (Nat × Box)) (sz nb d e tt id rv p : Nat) (src : Option (List (List D)) ), appX bx sz nb d e tt src (.fsl id rv p) = appF sz nb id rv p tt src (lookB id bx)) ∧
  (∀ (sz nb id rv p tt e v r : Nat) (rows : List (List (List D)) ) (src : Option (List (List D)) ), appF sz nb id rv p tt src (.nest e v r none rows) = cond (r == rv && e == tt) (appFR sz nb id e v r p rows src) .bad) ∧
  (∀ (sz nb id e v r p : Nat) (rows : List (List (List D)) ) (ys : List (List D)), appFR sz nb id e v r p rows (some ys) = .ob (((rows.getD p []).length + ys.length) * nb ≤ 140737488355328 ∧ AllLen sz ys) (.val (.fsl id (r + 1) p) [(id, .nest e v (r + 1) (some p) (rows.set p (rows.getD p [] ++ ys)))])) ∧
  (∀ (sz nb d e : Nat) (src : Option (List (List D)) ), appN sz nb d e src .dead = appR sz nb d e 0 [] src) := by
  refine ⟨?_, ?_, ?_, ?_, ?_, ?_, ?_, ?_, ?_, ?_, ?_, ?_, ?_, ?_, ?_, ?_, ?_, ?_, ?_, ?_, ?_, ?_, ?_, ?_, ?_, ?_, ?_, ?_, ?_, ?_, ?_, ?_, ?_, ?_, ?_, ?_, ?_, ?_, ?_, ?_, ?_, ?_, ?_, ?_, ?_, ?_, ?_, ?_, ?_, ?_, ?_, ?_, ?_, ?_, ?_, ?_, ?_, ?_, ?_, ?_⟩ <;> intros <;> first | rfl | (rename_i v _ _ _ _ _ _; cases v <;> rfl) | (rename_i v _ _ _; cases v <;> rfl) | (rename_i v _ _; cases v <;> rfl)

theorem V8 : (∀ (sz nb id e ver e' v : Nat) (xs : List (List D)) (src : Option (List (List D)) ), appO sz nb id e ver src (.arr e' v xs) = cond (v == ver && (e' == e)) (appR sz nb id e v xs src) .bad) ∧
  (∀ (sz nb id e ver : Nat) (xs ys : List (List D)), appR sz nb id e ver xs (some ys) = .ob ((xs.length + ys.length) * nb ≤ 140737488355328 ∧ AllLen sz ys) (.val (.osl id (ver + 1)) [(id, .arr e (ver + 1) (xs ++ ys))])) ∧
  (∀ (bx : List (Nat × Box)) (ys : List (List D)), srcD bx (.c (.sl ys)) = some ys) ∧
  (∀ (bx : List (Nat × Box)) (A : Option Addr) (c : Nat), srcD bx (.c (.sc (.slice A 0 c))) = some []) ∧
  (∀ (bx : List (Nat × Box)) (id ver : Nat), srcD bx (.osl id ver) = srcB ver (lookB id bx)) ∧
  (∀ (ver e v : Nat) (xs : List (List D)), srcB ver (.arr e v xs) = cond (v == ver) (some xs) none) ∧
  (∀ (ver v : Nat) (xs : List (List D)), srcB ver (.frz v xs) = cond (v == ver) (some xs) none) ∧
  (∀ (bx : List (Nat × Box)) (args : List AV) (f : Nat), callR bx args (.fn f []) = callN f args (normL bx args)) ∧
  (∀ (bx : List (Nat × Box)) (args : List AV) (l : Nat) (fst caps : Array Value), callR bx args (.c (.sc (.func (.yield l) fst caps))) = .yld l fst caps args) ∧
  (∀ (bx : List (Nat × Box)) (args : List AV) (f : Nat) (c : AV) (cs : List AV), callR bx args (.fn f (c :: cs)) = .callM f (args ++ (c :: cs))) ∧
  (∀ (f : Nat) (l raw : List AV) (u : Upd), callN f raw (some (l, u)) = .call f l u raw) ∧
  (∀ (f : Nat) (raw : List AV), callN f raw none = .callM f raw) ∧
  (∀ (bx : List (Nat × Box)) (id off : Nat), normA bx (.bp id off) = none) ∧
  (∀ (bx : List (Nat × Box)) (f : Nat) (cs : List AV), normA bx (.fn f cs) = none) ∧
  (∀ (bx : List (Nat × Box)) (id ver i sz off : Nat), normA bx (.op id ver i sz off) = none) ∧
  (∀ (o : Option (List AV × Upd)), and3 none o = none) ∧
  (∀ (x : AV × Upd), and3 (some x) none = none) ∧
  (∀ (caps : List AV) (f : Nat), mkFn caps 0 (.func f) = .val (.fn f caps) []) ∧
  (∀ (E : Env) (fr : List (Nat × AV)) (bx : List (Nat × Box)) (d : Nat) (f : Fn) (fst caps : List Operand), opR E ⟨fr, bx⟩ d (.makeFunc f fst.toArray caps.toArray) = mkFn (caps.map (ev fr)) fst.length f) ∧
  (∀ (f : Fn) (fst caps : List Operand), rd (.makeFunc f fst.toArray caps.toArray) = caps) ∧
  (∀ (bx : List (Nat × Box)), normL bx [] = some ([], [])) ∧
  (∀ (bx : List (Nat × Box)) (v : AV) (r : List AV), normL bx (v :: r) = and3 (normA bx v) (normL bx r)) ∧
  (∀ (v : AV) (u u' : Upd) (l : List AV), and3 (some (v, u)) (some (l, u')) = some (v :: l, u ++ u')) ∧
  (∀ (bx : List (Nat × Box)), normA bx (.c (.sc (.slice none 0 0))) = some (.c (.sl []), [])) ∧
  (∀ (bx : List (Nat × Box)) (k : IntKind) (n : Int), normA bx (.c (.sc (.int k n))) = some (.c (.sc (.int k n)), [])) ∧
  (∀ (bx : List (Nat × Box)) (b : Bool), normA bx (.c (.sc (.bool b))) = some (.c (.sc (.bool b)), [])) ∧
  (∀ (bx : List (Nat × Box)) (b : ByteArray), normA bx (.c (.sc (.string b))) = some (.c (.sc (.string b)), [])) ∧
  (∀ (bx : List (Nat × Box)) (xs : List (List D)), normA bx (.c (.sl xs)) = some (.c (.sl xs), [])) ∧
  (∀ (bx : List (Nat × Box)) (ds : List D), normA bx (.ag ds) = some (.ag ds, [])) ∧
  (∀ (bx : List (Nat × Box)) (ds : List D), normA bx (.ip ds) = some (.ip ds, [])) ∧
  (∀ (bx : List (Nat × Box)) (id rv p : Nat), normA bx (.fsl id rv p) = (toDF id rv p (lookB id bx)).map fun p => (.c p.1, p.2)) ∧
  (∀ (bx : List (Nat × Box)) (vs : List AV), normA bx (.agv vs) = (toDL bx vs).map fun p => (.ag p.1, p.2)) ∧
  (∀ (bx : List (Nat × Box)) (id ver : Nat), normA bx (.osl id ver) = (toDB id ver (lookB id bx)).map fun p => (.c p.1, p.2)) ∧
  (∀ (x : D), isSc (.c x) = scD x) ∧
  (∀ (v : Value), scD (.sc v) = true) ∧
  (∀ (xs : List (List D)), scD (.sl xs) = false) ∧
  (∀ (ds : List D), isSc (.ag ds) = ds.all scD) ∧
  (∀ (vs : List AV), isSc (.tp vs) = vs.all fun | .c d => scD d | .ag ds => ds.all scD | _ => false) ∧
  (∀ (e : Nat) (xs : List (List D)), isSc (.fr e xs) = false) ∧
  (∀ (i : Nat), ren [] i = i) ∧
  (∀ (i a b : Nat) (r : List (Nat × Nat)), ren ((a, b) :: r) i = cond (i == a) b (ren r i)) ∧
  (∀ (ver ver0 e v e' v' : Nat) (xs xs' : List (List D)), SameO ver ver0 (.arr e v xs) (.arr e' v' xs') = (v = ver ∧ v' = ver0 ∧ e = e' ∧ xs = xs')) ∧
  (∀ (ver ver0 v v' : Nat) (xs xs' : List (List D)), SameO ver ver0 (.frz v xs) (.frz v' xs') = (v = ver ∧ v' = ver0 ∧ xs = xs')) ∧
  (∀ (ver ver0 e v r e' v' r' : Nat) (rows rows' : List (List (List D)) ), SameO ver ver0 (.nest e v r none rows) (.nest e' v' r' none rows') = (v = ver ∧ v' = ver0 ∧ e = e' ∧ rows = rows')) ∧
  (∀ (id ver0 id' ver : Nat) (b b0 : Box), FitO id ver0 b b0 (.osl id' ver) = (id' = id ∧ SameO ver ver0 b b0)) ∧
  (∀ (cs cs' : List AV), bothC (.cells cs) (.cells cs') = True) ∧
  (∀ (id off0 id' off : Nat) (b b0 : Box), FitP id off0 b b0 (.bp id' off) = (id' = id ∧ off = off0 ∧ bothC b b0)) ∧
  (∀ (ver v : Nat) (x : D) (xs : List (List D)), FitZ ver x (.frz v xs) = (v = ver ∧ .sl xs = x)) ∧
  (∀ (bx : List (Nat × Box)) (x : D), FitC bx x (.c (.sc (.slice none 0 0))) = (x = .sc (.slice none 0 0) ∨ x = .sl [])) ∧
  (∀ (bx : List (Nat × Box)) (x : D) (xs : List (List D)), FitC bx x (.c (.sl xs)) = (.sl xs = x)) ∧
  (∀ (bx : List (Nat × Box)) (x : D) (k : IntKind) (n : Int), FitC bx x (.c (.sc (.int k n))) = (.sc (.int k n) = x)) ∧
  (∀ (bx : List (Nat × Box)) (x : D) (b : Bool), FitC bx x (.c (.sc (.bool b))) = (.sc (.bool b) = x)) ∧
  (∀ (bx : List (Nat × Box)) (x : D) (b : ByteArray), FitC bx x (.c (.sc (.string b))) = (.sc (.string b) = x)) ∧
  (∀ (bx : List (Nat × Box)) (x : D) (id ver : Nat), FitC bx x (.osl id ver) = FitZ ver x (lookB id bx)) ∧
  (∀ (ρ : List (Nat × Nat)) (bx : List (Nat × Box)) (bx0 : List (Nat × Box)) (v : AV), FitV0 ρ bx bx0 v .top = True) ∧
  (∀ (ρ : List (Nat × Nat)) (bx : List (Nat × Box)) (bx0 : List (Nat × Box)) (v : AV) (id0 ver0 : Nat), FitV0 ρ bx bx0 v (.osl id0 ver0) = FitO (ren ρ id0) ver0 (lookB (ren ρ id0) bx) (lookB id0 bx0) v) ∧
  (∀ (ρ : List (Nat × Nat)) (bx : List (Nat × Box)) (bx0 : List (Nat × Box)) (v : AV) (id0 off0 : Nat), FitV0 ρ bx bx0 v (.bp id0 off0) = FitP (ren ρ id0) off0 (lookB (ren ρ id0) bx) (lookB id0 bx0) v) ∧
  (∀ (ρ : List (Nat × Nat)) (bx : List (Nat × Box)) (bx0 : List (Nat × Box)) (v : AV) (x : D), FitV0 ρ bx bx0 v (.c x) = FitC bx x v) ∧
  (∀ (ρ : List (Nat × Nat)) (bx : List (Nat × Box)) (bx0 : List (Nat × Box)) (v : AV) (ds : List D), FitV0 ρ bx bx0 v (.ag ds) = (v = .ag ds)) ∧
  (∀ (ρ : List (Nat × Nat)) (bx : List (Nat × Box)) (bx0 : List (Nat × Box)) (v : AV) (ds : List D), FitV0 ρ bx bx0 v (.ip ds) = (v = .ip ds)) := by
  refine ⟨?_, ?_, ?_, ?_, ?_, ?_, ?_, ?_, ?_, ?_, ?_, ?_, ?_, ?_, ?_, ?_, ?_, ?_, ?_, ?_, ?_, ?_, ?_, ?_, ?_, ?_, ?_, ?_, ?_, ?_, ?_, ?_, ?_, ?_, ?_, ?_, ?_, ?_, ?_, ?_, ?_, ?_, ?_, ?_, ?_, ?_, ?_, ?_, ?_, ?_, ?_, ?_, ?_, ?_, ?_, ?_, ?_, ?_, ?_, ?_⟩ <;> intros <;> first | rfl | (rename_i v _ _ _ _ _ _; cases v <;> rfl) | (rename_i v _ _ _; cases v <;> rfl) | (rename_i v _ _; cases v <;> rfl)

theorem V9 : (∀ (ρ : List (Nat × Nat)) (bx : List (Nat × Box)) (bx0 : List (Nat × Box)) (v : AV), FitV ρ bx bx0 v .top = True) ∧
  (∀ (ρ : List (Nat × Nat)) (bx : List (Nat × Box)) (bx0 : List (Nat × Box)) (v : AV) (id0 ver0 : Nat), FitV ρ bx bx0 v (.osl id0 ver0) = FitO (ren ρ id0) ver0 (lookB (ren ρ id0) bx) (lookB id0 bx0) v) ∧
  (∀ (ρ : List (Nat × Nat)) (bx : List (Nat × Box)) (bx0 : List (Nat × Box)) (v : AV) (id0 off0 : Nat), FitV ρ bx bx0 v (.bp id0 off0) = FitP (ren ρ id0) off0 (lookB (ren ρ id0) bx) (lookB id0 bx0) v) ∧
  (∀ (ρ : List (Nat × Nat)) (bx : List (Nat × Box)) (bx0 : List (Nat × Box)) (v : AV) (x : D), FitV ρ bx bx0 v (.c x) = FitC bx x v) ∧
  (∀ (ρ : List (Nat × Nat)) (bx : List (Nat × Box)) (bx0 : List (Nat × Box)) (v : AV) (ds : List D), FitV ρ bx bx0 v (.ag ds) = (v = .ag ds)) ∧
  (∀ (ρ : List (Nat × Nat)) (bx : List (Nat × Box)) (bx0 : List (Nat × Box)) (v : AV) (ds : List D), FitV ρ bx bx0 v (.ip ds) = (v = .ip ds)) ∧
  (∀ (ρ : List (Nat × Nat)) (bx : List (Nat × Box)) (bx0 : List (Nat × Box)) (v : AV) (f : Nat) (cs : List AV), FitV ρ bx bx0 v (.fn f cs) = FitF ρ bx bx0 f cs v) ∧
  (∀ (ρ : List (Nat × Nat)) (bx : List (Nat × Box)) (bx0 : List (Nat × Box)) (f f' : Nat) (cs cs0 : List AV), FitF ρ bx bx0 f cs0 (.fn f' cs) = (f' = f ∧ FitL0 ρ bx bx0 cs cs0)) ∧
  (∀ (ρ : List (Nat × Nat)) (bx : List (Nat × Box)) (bx0 : List (Nat × Box)), FitL0 ρ bx bx0 [] [] = True) ∧
  (∀ (ρ : List (Nat × Nat)) (bx : List (Nat × Box)) (bx0 : List (Nat × Box)) (v v0 : AV) (r r0 : List AV), FitL0 ρ bx bx0 (v :: r) (v0 :: r0) = (FitV0 ρ bx bx0 v v0 ∧ FitL0 ρ bx bx0 r r0)) ∧
  (∀ (ρ : List (Nat × Nat)) (bx : List (Nat × Box)) (bx0 : List (Nat × Box)), FitL ρ bx bx0 [] [] = True) ∧
  (∀ (ρ : List (Nat × Nat)) (bx : List (Nat × Box)) (bx0 : List (Nat × Box)) (v v0 : AV) (r r0 : List AV), FitL ρ bx bx0 (v :: r) (v0 :: r0) = (FitV ρ bx bx0 v v0 ∧ FitL ρ bx bx0 r r0)) ∧
  (∀ (id : Nat) (bx : List (Nat × Box)) (e v r : Nat) (rows : List (List (List D)) ), frz1 id bx (.nest e v r none rows) = (id, .frz v (rowsD rows)) :: bx) ∧
  (∀ (id : Nat) (bx : List (Nat × Box)) (e v : Nat) (xs : List (List D)), frz1 id bx (.arr e v xs) = (id, .frz v xs) :: bx) ∧
  (∀ (bx : List (Nat × Box)), frzB [] bx = bx) ∧
  (∀ (id : Nat) (r : List Nat) (bx : List (Nat × Box)), frzB (id :: r) bx = frzB r (frz1 id bx (lookB id bx))) ∧
  (∀ (φ : List Nat) (fr : List (Nat × AV)) (bx : List (Nat × Box)), frzS φ ⟨fr, bx⟩ = ⟨fr, frzB φ bx⟩) ∧
  (∀ (id idr : Nat) (b b0 : Box), PinV id idr .dead b b0 = True) ∧
  (∀ (id idr : Nat) (cs cs0 : List AV) (b : Box), PinV id idr (.cells cs) b (.cells cs0) = (idr = id)) ∧
  (∀ (id idr e n e1 v e0 v0 : Nat) (xs xs1 xs0 : List (List D)), PinV id idr (.arr e n xs) (.arr e1 v xs1) (.arr e0 v0 xs0) = ((idr = id ∧ v0 = v) ∨ n < v0)) ∧
  (∀ (id idr e n v v0 : Nat) (xs xs1 xs0 : List (List D)), PinV id idr (.arr e n xs) (.frz v xs1) (.frz v0 xs0) = ((idr = id ∧ v0 = v) ∨ n < v0)) ∧
  (∀ (ρ : List (Nat × Nat)) (bx : List (Nat × Box)) (bx0 : List (Nat × Box)), PinL ρ bx bx0 [] = True) ∧
  (∀ (ρ : List (Nat × Nat)) (bx : List (Nat × Box)) (bx0 : List (Nat × Box)) (i : Nat) (b : Box) (r : List (Nat × Box)), PinL ρ bx bx0 ((i, b) :: r) = (PinV i (ren ρ i) b (lookB (ren ρ i) bx) (lookB i bx0) ∧ PinL ρ bx bx0 r)) ∧
  (∀ (e v : Nat) (xs : List (List D)), verB (.arr e v xs) = v) ∧
  (∀ (v : Nat) (xs : List (List D)), verB (.frz v xs) = v) ∧
  (∀ (cs : List AV), verB (.cells cs) = 0) ∧
  (verB .dead = 0) ∧
  (∀ (e v r : Nat) (dt : Option Nat) (rows : List (List (List D)) ), verB (.nest e v r dt rows) = v) ∧
  (∀ (σ : List (Nat × Nat)) (bc : List (Nat × Box)) (bx : List (Nat × Box)) (id ver : Nat), renA σ bc bx (.osl id ver) = cond (decide (verB (lookB id bx) ≤ ver)) (.osl (ren σ id) (ver - verB (lookB id bx) + verB (lookB (ren σ id) bc))) .top) ∧
  (∀ (σ : List (Nat × Nat)) (bc : List (Nat × Box)) (bx : List (Nat × Box)) (id off : Nat), renA σ bc bx (.bp id off) = .bp (ren σ id) off) ∧
  (∀ (σ : List (Nat × Nat)) (bc : List (Nat × Box)) (bx : List (Nat × Box)) (x : D), renA σ bc bx (.c x) = .c x) ∧
  (∀ (σ : List (Nat × Nat)) (bc : List (Nat × Box)) (bx : List (Nat × Box)) (ds : List D), renA σ bc bx (.ag ds) = .ag ds) ∧
  (∀ (σ : List (Nat × Nat)) (bc : List (Nat × Box)) (bx : List (Nat × Box)) (ds : List D), renA σ bc bx (.ip ds) = .ip ds) ∧
  (∀ (σ : List (Nat × Nat)) (bc : List (Nat × Box)) (bx : List (Nat × Box)) (f : Nat) (cs : List AV), renA σ bc bx (.fn f cs) = .fn f (renL σ bc bx cs)) ∧
  (∀ (σ : List (Nat × Nat)) (bc : List (Nat × Box)) (bx : List (Nat × Box)) (vs : List AV), renA σ bc bx (.tp vs) = .tp (renL σ bc bx vs)) ∧
  (∀ (σ : List (Nat × Nat)) (bc : List (Nat × Box)) (bx : List (Nat × Box)), renL σ bc bx [] = []) ∧
  (∀ (σ : List (Nat × Nat)) (bc : List (Nat × Box)) (bx : List (Nat × Box)) (v : AV) (r : List AV), renL σ bc bx (v :: r) = renA σ bc bx v :: renL σ bc bx r) ∧
  (∀ (σ : List (Nat × Nat)) (bc : List (Nat × Box)) (bx : List (Nat × Box)) (vc v0 rc r0 : Nat) (cs : List AV), reB σ bc bx vc v0 rc r0 (.cells cs) = .cells (renL σ bc bx cs)) ∧
  (∀ (σ : List (Nat × Nat)) (bc : List (Nat × Box)) (bx : List (Nat × Box)) (vc v0 rc r0 e v : Nat) (xs : List (List D)), reB σ bc bx vc v0 rc r0 (.arr e v xs) = .arr e (v - v0 + vc) xs) ∧
  (∀ (σ : List (Nat × Nat)) (bc : List (Nat × Box)) (bx : List (Nat × Box)) (vc v0 rc r0 v : Nat) (xs : List (List D)), reB σ bc bx vc v0 rc r0 (.frz v xs) = .frz (v - v0 + vc) xs) ∧
  (∀ (σ : List (Nat × Nat)) (bc : List (Nat × Box)) (bx : List (Nat × Box)), reU σ bc bx [] = []) ∧
  (∀ (σ : List (Nat × Nat)) (bc : List (Nat × Box)) (bx : List (Nat × Box)) (i : Nat) (b : Box) (r : List (Nat × Box)), reU σ bc bx ((i, b) :: r) = (ren σ i, reB σ bc bx (verB (lookB (ren σ i) bc)) (verB (lookB i bx)) (rvB (lookB (ren σ i) bc)) (rvB (lookB i bx)) b) :: reU σ bc bx r) ∧
  (cellsTop [] = true) ∧
  (∀ (v : AV) (r : List AV), cellsTop (v :: r) = cond (cellAV v) (cellsTop r) false) ∧
  (∀ (cs : List AV), boxTop (.cells cs) = cellsTop cs) ∧
  (∀ (e v : Nat) (xs : List (List D)), boxTop (.arr e v xs) = true) ∧
  (∀ (v : Nat) (xs : List (List D)), boxTop (.frz v xs) = true) ∧
  (∀ (e v r : Nat) (dt : Option Nat) (rows : List (List (List D)) ), boxTop (.nest e v r dt rows) = true) ∧
  (∀ (e v r : Nat) (dt : Option Nat) (rows : List (List (List D)) ), rvB (.nest e v r dt rows) = r) ∧
  (rvB .dead = 0) ∧
  (∀ (σ : List (Nat × Nat)) (bc : List (Nat × Box)) (bx : List (Nat × Box)) (vc v0 rc r0 e v r : Nat) (dt : Option Nat) (rows : List (List (List D)) ), reB σ bc bx vc v0 rc r0 (.nest e v r dt rows) = .nest e (v - v0 + vc) (r - r0 + rc) dt rows) ∧
  (updTop [] = true) ∧
  (∀ (i : Nat) (b : Box) (r : Upd), updTop ((i, b) :: r) = cond (boxTop b) (updTop r) false) ∧
  (∀ (x : D), cellAV (.c x) = true) ∧
  (∀ (id ver : Nat), cellAV (.osl id ver) = true) ∧
  (∀ (id rv p : Nat), cellAV (.fsl id rv p) = true) ∧
  (∀ (id off : Nat), cellAV (.bp id off) = true) ∧
  (∀ (id ver i sz off : Nat), cellAV (.op id ver i sz off) = true) ∧
  (∀ (ds : List D), cellAV (.ip ds) = true) ∧
  (∀ (f : Nat) (cs : List AV), cellAV (.fn f cs) = true) := by
  refine ⟨?_, ?_, ?_, ?_, ?_, ?_, ?_, ?_, ?_, ?_, ?_, ?_, ?_, ?_, ?_, ?_, ?_, ?_, ?_, ?_, ?_, ?_, ?_, ?_, ?_, ?_, ?_, ?_, ?_, ?_, ?_, ?_, ?_, ?_, ?_, ?_, ?_, ?_, ?_, ?_, ?_, ?_, ?_, ?_, ?_, ?_, ?_, ?_, ?_, ?_, ?_, ?_, ?_, ?_, ?_, ?_, ?_, ?_, ?_, ?_⟩ <;> intros <;> first | rfl | (rename_i v _ _ _ _ _ _; cases v <;> rfl) | (rename_i v _ _ _; cases v <;> rfl) | (rename_i v _ _; cases v <;> rfl)

theorem V10 : (cellAV .top = false) ∧
  (∀ (b : Box), New1 .dead b = (b = .dead)) ∧
  (∀ (e v : Nat) (xs : List (List D)) (b : Box), New1 (.arr e v xs) b = True) ∧
  (∀ (v : Nat) (xs : List (List D)) (b : Box), New1 (.frz v xs) b = True) ∧
  (∀ (cs : List AV) (b : Box), New1 (.cells cs) b = True) ∧
  (∀ (σ : List (Nat × Nat)) (bc : List (Nat × Box)) (bx : List (Nat × Box)), NewL σ bc bx [] = True) ∧
  (∀ (σ : List (Nat × Nat)) (bc : List (Nat × Box)) (bx : List (Nat × Box)) (i : Nat) (b : Box) (r : List (Nat × Box)), NewL σ bc bx ((i, b) :: r) = (New1 (lookB i bx) (lookB (ren σ i) bc) ∧ NewL σ bc bx r)) ∧
  (∀ (t : Nat) (r : AV), retFr [t] r = some [(t, r)]) ∧
  (∀ (rs : List AV), retFr [] (.tp rs) = cond (([] : List Nat).length == rs.length) (some (zipR [] rs)) none) ∧
  (∀ (t t' : Nat) (ts : List Nat) (rs : List AV), retFr (t :: t' :: ts) (.tp rs) = cond ((t :: t' :: ts).length == rs.length) (some (zipR (t :: t' :: ts) rs)) none) ∧
  (zipR [] [] = []) ∧
  (∀ (t : Nat) (r : AV) (ts : List Nat) (rs : List AV), zipR (t :: ts) (r :: rs) = (t, r) :: zipR ts rs) ∧
  (∀ (E : Env) (pb : List (Nat × Box)) (bx1 : List (Nat × Box)) (s : S) (fr : List (Nat × AV)), RetM E pb bx1 s (some fr) = Enter E pb s ⟨fr, bx1⟩) ∧
  (∀ (E : Env) (pb : List (Nat × Box)) (ts : List Nat) (r : AV) (bx1 : List (Nat × Box)) (s : S), retM E pb ts r bx1 .normal s = RetM E pb bx1 s (retFr ts r)) ∧
  (∀ (E : Env) (pb : List (Nat × Box)) (ts : List Nat) (r : AV) (bx1 : List (Nat × Box)) (s : S), retM E pb ts r bx1 .ret s = RetM E pb bx1 s (retFr ts r)) ∧
  (∀ (ρ : List (Nat × Nat)) (bx bx0 : List (Nat × Box)), FitCs ρ bx bx0 [] [] = True) ∧
  (∀ (ρ : List (Nat × Nat)) (bx bx0 : List (Nat × Box)) (v v0 : AV) (r r0 : List AV), FitCs ρ bx bx0 (v :: r) (v0 :: r0) = ((FitV ρ bx bx0 v v0 ∧ cellF v0 = true) ∧ FitCs ρ bx bx0 r r0)) ∧
  (∀ (ρ : List (Nat × Nat)) (bx bx0 : List (Nat × Box)) (e v e' v' : Nat) (xs xs' : List (List D)), FitB ρ bx bx0 (.arr e v xs) (.arr e' v' xs') = (e = e' ∧ xs = xs')) ∧
  (∀ (ρ : List (Nat × Nat)) (bx bx0 : List (Nat × Box)) (e v r e' v' r' : Nat) (rows rows' : List (List (List D)) ), FitB ρ bx bx0 (.nest e v r none rows) (.nest e' v' r' none rows') = (e = e' ∧ rows = rows')) ∧
  (∀ (ρ : List (Nat × Nat)) (bx bx0 : List (Nat × Box)) (v v' : Nat) (xs xs' : List (List D)), FitB ρ bx bx0 (.frz v xs) (.frz v' xs') = (xs = xs')) ∧
  (∀ (ρ : List (Nat × Nat)) (bx bx0 : List (Nat × Box)) (cs cs' : List AV), FitB ρ bx bx0 (.cells cs) (.cells cs') = FitCs ρ bx bx0 cs cs') ∧
  (∀ (ρ : List (Nat × Nat)) (s : S) (bx0 : List (Nat × Box)), LeF ρ s bx0 [] = True) ∧
  (∀ (ρ : List (Nat × Nat)) (fr : List (Nat × AV)) (bx : List (Nat × Box)) (bx0 : List (Nat × Box)) (i : Nat) (v : AV) (r : List (Nat × AV)), LeF ρ ⟨fr, bx⟩ bx0 ((i, v) :: r) = (FitV ρ bx bx0 (look i fr) v ∧ LeF ρ ⟨fr, bx⟩ bx0 r)) ∧
  (∀ (ρ : List (Nat × Nat)) (s : S) (bx0 : List (Nat × Box)), LeB ρ s bx0 [] = True) ∧
  (∀ (ρ : List (Nat × Nat)) (fr : List (Nat × AV)) (bx : List (Nat × Box)) (bx0 : List (Nat × Box)) (i : Nat) (b : Box) (r : List (Nat × Box)), LeB ρ ⟨fr, bx⟩ bx0 ((i, b) :: r) = (FitB ρ bx bx0 (lookB (ren ρ i) bx) b ∧ LeB ρ ⟨fr, bx⟩ bx0 r)) ∧
  (∀ (ρ : List (Nat × Nat)) (seen : List Nat), nodupR ρ [] seen = true) ∧
  (∀ (ρ : List (Nat × Nat)) (i : Nat) (b : Box) (r : List (Nat × Box)) (seen : List Nat), nodupR ρ ((i, b) :: r) seen = cond (memN (ren ρ i) seen) false (nodupR ρ r (ren ρ i :: seen))) ∧
  (∀ (ρ : List (Nat × Nat)) (s : S) (fr0 : List (Nat × AV)) (bx0 : List (Nat × Box)), Into ρ s ⟨fr0, bx0⟩ = (LeF ρ s bx0 fr0 ∧ LeB ρ s bx0 bx0 ∧ nodupR ρ bx0 [] = true)) ∧
  (∀ (E : Env) (s : S), OwnsOK E [] s = True) ∧
  (∀ (E : Env) (fr : List (Nat × AV)) (bx : List (Nat × Box)) (i id e : Nat) (r : List (Nat × (Nat × Nat)) ), OwnsOK E ((i, (id, e)) :: r) ⟨fr, bx⟩ = (look i fr = .c (.sc (.slice none 0 0)) ∧ lookB id bx = .dead ∧ ownK E e = true ∧ OwnsOK E r ⟨(i, .osl id 0) :: fr, (id, ownBx e) :: bx⟩)) ∧
  (∀ (E : Env) (e : Nat), ownK E e = cond (decide (100000 ≤ e)) (isSlT (E (e - 100000))) (E e).isSome) ∧
  (∀ (e : Nat), ownBx e = cond (decide (100000 ≤ e)) (.nest (e - 100000) 0 0 none []) (.arr e 0 [])) ∧
  (∀ (te : TI), isSlT (some te) = (isSlK te.kind && te.size == 1)) ∧
  (∀ (s : S), ownS [] s = s) ∧
  (∀ (fr : List (Nat × AV)) (bx : List (Nat × Box)) (i id e : Nat) (r : List (Nat × (Nat × Nat)) ), ownS ((i, (id, e)) :: r) ⟨fr, bx⟩ = ownS r ⟨(i, .osl id 0) :: fr, (id, ownBx e) :: bx⟩) ∧
  (∀ (x d : D) (u : Upd), RetC (some (x, u)) d = (x = d)) ∧
  (∀ (e ver e' v' : Nat) (xs xs' : List (List D)), RetB e ver xs (.arr e' v' xs') = (e' = e ∧ v' = ver ∧ xs' = xs)) ∧
  (∀ (E : Env) (e id ver : Nat) (xs : List (List D)) (bx : List (Nat × Box)), RetF E e xs bx (.osl id ver) = RetB e ver xs (lookB id bx)) ∧
  (∀ (E : Env) (e : Nat) (xs : List (List D)) (bx : List (Nat × Box)), RetF E e xs bx (.c (.sc (.slice none 0 0))) = (xs = [] ∧ (E e).isSome = true)) ∧
  (∀ (E : Env) (bx : List (Nat × Box)) (v : AV) (x : D), Ret1 E bx v (.c x) = RetC (toD bx v) x) ∧
  (∀ (E : Env) (bx : List (Nat × Box)) (v : AV) (ds : List D), Ret1 E bx v (.ag ds) = RetA (retA bx v) ds) ∧
  (∀ (bx : List (Nat × Box)) (ds : List D), retA bx (.ag ds) = some (ds.map nilD, [])) ∧
  (nilD (.sc (.slice none 0 0)) = .sl []) ∧
  (∀ (xs : List (List D)), nilD (.sl xs) = .sl xs) ∧
  (∀ (k : IntKind) (n : Int), nilD (.sc (.int k n)) = .sc (.int k n)) ∧
  (∀ (b : Bool), nilD (.sc (.bool b)) = .sc (.bool b)) ∧
  (∀ (b : ByteArray), nilD (.sc (.string b)) = .sc (.string b)) ∧
  (∀ (bx : List (Nat × Box)) (vs : List AV), retA bx (.agv vs) = toDL bx vs) ∧
  (∀ (ds ds' : List D) (u : Upd), RetA (some (ds, u)) ds' = (ds = ds')) ∧
  (∀ (ds : List D) (u : Upd), toDKs (some (ds, u)) = keysU u) ∧
  (∀ (E : Env) (bx : List (Nat × Box)) (v : AV) (e : Nat) (xs : List (List D)), Ret1 E bx v (.fr e xs) = RetF E e xs bx v) ∧
  (∀ (E : Env) (bx : List (Nat × Box)), RetL E bx [] [] = True) ∧
  (∀ (E : Env) (bx : List (Nat × Box)) (v r : AV) (vs rs : List AV), RetL E bx (v :: vs) (r :: rs) = (Ret1 E bx v r ∧ RetL E bx vs rs)) ∧
  (∀ (E : Env) (bx : List (Nat × Box)) (vs rs : List AV), RetT E bx vs (.tp rs) = (RetL E bx vs rs ∧ disjN (frIds vs rs) (frzIds bx vs rs) = true)) ∧
  (∀ (E : Env) (r : AV) (bx : List (Nat × Box)) (v : AV), RetVC E r bx [v] = Ret1 E bx v r) ∧
  (∀ (E : Env) (r : AV) (bx : List (Nat × Box)), RetVC E r bx [] = RetT E bx [] r) ∧
  (∀ (E : Env) (r : AV) (bx : List (Nat × Box)) (v v' : AV) (vs : List AV), RetVC E r bx (v :: v' :: vs) = RetT E bx (v :: v' :: vs) r) ∧
  (frIds [] [] = []) ∧
  (∀ (id ver e : Nat) (xs : List (List D)) (vs rs : List AV), frIds (.osl id ver :: vs) (.fr e xs :: rs) = id :: frIds vs rs) ∧
  (∀ (v : AV) (x : D) (vs rs : List AV), frIds (v :: vs) (.c x :: rs) = frIds vs rs) := by
  refine ⟨?_, ?_, ?_, ?_, ?_, ?_, ?_, ?_, ?_, ?_, ?_, ?_, ?_, ?_, ?_, ?_, ?_, ?_, ?_, ?_, ?_, ?_, ?_, ?_, ?_, ?_, ?_, ?_, ?_, ?_, ?_, ?_, ?_, ?_, ?_, ?_, ?_, ?_, ?_, ?_, ?_, ?_, ?_, ?_, ?_, ?_, ?_, ?_, ?_, ?_, ?_, ?_, ?_, ?_, ?_, ?_, ?_, ?_, ?_, ?_⟩ <;> intros <;> first | rfl | (rename_i v _ _ _ _ _ _; cases v <;> rfl) | (rename_i v _ _ _; cases v <;> rfl) | (rename_i v _ _; cases v <;> rfl)

theorem V11 : (∀ (v : AV) (ds : List D) (vs rs : List AV), frIds (v :: vs) (.ag ds :: rs) = frIds vs rs) ∧
  (∀ (x : D) (r : AV) (vs rs : List AV), frIds (.c x :: vs) (r :: rs) = frIds vs rs) ∧
  (∀ (ds : List D) (r : AV) (vs rs : List AV), frIds (.ag ds :: vs) (r :: rs) = frIds vs rs) ∧
  (∀ (cs : List AV) (r : AV) (vs rs : List AV), frIds (.agv cs :: vs) (r :: rs) = frIds vs rs) ∧
  (∀ (bx : List (Nat × Box)), frzIds bx [] [] = []) ∧
  (∀ (bx : List (Nat × Box)) (v : AV) (x : D) (vs rs : List AV), frzIds bx (v :: vs) (.c x :: rs) = toDK (toD bx v) ++ frzIds bx vs rs) ∧
  (∀ (bx : List (Nat × Box)) (v : AV) (ds : List D) (vs rs : List AV), frzIds bx (v :: vs) (.ag ds :: rs) = toDKs (retA bx v) ++ frzIds bx vs rs) ∧
  (∀ (bx : List (Nat × Box)) (v : AV) (e : Nat) (xs : List (List D)) (vs rs : List AV), frzIds bx (v :: vs) (.fr e xs :: rs) = frzIds bx vs rs) ∧
  (∀ (x : D) (u : Upd), toDK (some (x, u)) = keysU u) ∧
  (∀ (E : Env) (ts : List Nat) (r : AV) (fr : List (Nat × AV)) (bx : List (Nat × Box)), retQ E ts r .normal ⟨fr, bx⟩ = RetVC E r bx (ts.map (look · fr))) ∧
  (∀ (E : Env) (ts : List Nat) (r : AV) (fr : List (Nat × AV)) (bx : List (Nat × Box)), retQ E ts r .ret ⟨fr, bx⟩ = RetVC E r bx (ts.map (look · fr))) ∧
  (∀ (i : Nat), frOf i [] = []) ∧
  (∀ (i : Nat) (v : AV) (r : List AV), frOf i (v :: r) = (i, v) :: frOf (i + 1) r) ∧
  (∀ (args : List AV), argsS args = ⟨frOf 0 args, []⟩) ∧
  (∀ (E : Env) (fr : List (Nat × AV)) (bx : List (Nat × Box)) (d : Nat) (t : Nat), opR E ⟨fr, bx⟩ d (.makeMap t none) = mkMapAV bx d (E t)) ∧
  (∀ (E : Env) (fr : List (Nat × AV)) (bx : List (Nat × Box)) (d : Nat) (t : Nat) (x k : Operand) (c : Bool), opR E ⟨fr, bx⟩ d (.lookup t x k c) = lookAV E bx (ev fr x) (ev fr k) c (E t)) ∧
  (∀ (E : Env) (fr : List (Nat × AV)) (bx : List (Nat × Box)) (d : Nat) (t : Nat) (x k y : Operand), opR E ⟨fr, bx⟩ d (.mapUpdate t x k y) = updAV E bx (ev fr x) (ev fr k) (ev fr y) (E t)) ∧
  (∀ (bx : List (Nat × Box)) (d : Nat) (n b k e : Nat) (z : List Value) (ow : Bool), mkMapAV bx d (some ⟨n, b, z, .map k e, ow⟩) = mkMapK d k e (lookB d bx)) ∧
  (∀ (d kt et : Nat), mkMapK d kt et .dead = .val (.mp d) [(d, .map kt et [])]) ∧
  (∀ (E : Env) (bx : List (Nat × Box)) (x k : AV) (c : Bool) (n b kt et : Nat) (z : List Value) (ow : Bool), lookAV E bx x k c (some ⟨n, b, z, .map kt et, ow⟩) = lookX E bx c kt et k x) ∧
  (∀ (E : Env) (bx : List (Nat × Box)) (c : Bool) (kt et id : Nat) (k : Value), lookX E bx c kt et (.c (.sc k)) (.mp id) = lookBx E c kt et k (lookB id bx)) ∧
  (∀ (E : Env) (c : Bool) (kt et kt' et' : Nat) (k : Value) (es : List (Value × Value)), lookBx E c kt et k (.map kt' et' es) = cond (kt == kt' && (et == et' && keyOK (kindOf (E kt)) k)) (lookZ c (mfind k es) (E et)) .bad) ∧
  (∀ (c : Bool) (r : Option Value) (n b : Nat) (z : Value) (kd : TK) (ow : Bool), lookZ c r (some ⟨n, b, [z], kd, ow⟩) = cond (kAgg kd) .bad (lookOpt c z r)) ∧
  (∀ (z v : Value), lookOpt true z (some v) = .val (.tp [.c (.sc v), .c (.sc (.bool true))]) []) ∧
  (∀ (z v : Value), lookOpt false z (some v) = .val (.c (.sc v)) []) ∧
  (∀ (z : Value), lookOpt true z none = .val (.tp [.c (zD z), .c (.sc (.bool false))]) []) ∧
  (∀ (z : Value), lookOpt false z none = .val (.c (zD z)) []) ∧
  (∀ (ti : TI), kindOf (some ti) = ti.kind) ∧
  (∀ (k k' : IntKind) (n : Int), keyOK (.int k') (.int k n) = decide (k = k')) ∧
  (∀ (b : ByteArray), keyOK .str (.string b) = true) ∧
  (∀ (E : Env) (bx : List (Nat × Box)) (x k y : AV) (n b kt et : Nat) (z : List Value) (ow : Bool), updAV E bx x k y (some ⟨n, b, z, .map kt et, ow⟩) = updX E bx kt et k y x) ∧
  (∀ (E : Env) (bx : List (Nat × Box)) (kt et id : Nat) (k y : Value), updX E bx kt et (.c (.sc k)) (.c (.sc y)) (.mp id) = updBx E id kt et k y (lookB id bx)) ∧
  (∀ (E : Env) (id kt et kt' et' : Nat) (k y : Value) (es : List (Value × Value)), updBx E id kt et k y (.map kt' et' es) = cond (kt == kt' && (et == et' && keyOK (kindOf (E kt)) k)) (.val .top [(id, .map kt et (mput k y es))]) .bad) ∧
  (∀ (bx : List (Nat × Box)) (x : AV) (k e : Nat), lenK bx x (.map k e) = lenM bx x) ∧
  (∀ (bx : List (Nat × Box)) (id : Nat), lenM bx (.mp id) = lenMB (lookB id bx)) ∧
  (∀ (kt et : Nat) (es : List (Value × Value)), lenMB (.map kt et es) = iv (.int .i64 es.length)) ∧
  (∀ (id : Nat), cellsOf (.mp id) = [.mp id]) ∧
  (∀ (id : Nat), okCells (.mp id) = true) ∧
  (∀ (id : Nat), cellAV (.mp id) = true) ∧
  (∀ (id : Nat), refs (.mp id) = [id]) ∧
  (∀ (t : Nat) (r : Option Operand), rd (.makeMap t r) = []) ∧
  (∀ (t : Nat) (x k : Operand) (c : Bool), rd (.lookup t x k c) = [x, k]) ∧
  (∀ (t : Nat) (x k y : Operand), rd (.mapUpdate t x k y) = [x, k, y]) ∧
  (∀ (n b k e : Nat) (z : List Value) (ds : List D) (ow : Bool), loadD ⟨n, b, z, .map k e, ow⟩ ds = headR ds) ∧
  (∀ (n b k e : Nat) (z : List Value) (ds : List AV) (ow : Bool), loadC ⟨n, b, z, .map k e, ow⟩ ds = headA ds) ∧
  (∀ (id id' : Nat) (b b0 : Box), FitM id b b0 (.mp id') = (id' = id ∧ bothM b b0)) ∧
  (∀ (kt et kt' et' : Nat) (es es' : List (Value × Value)), bothM (.map kt et es) (.map kt' et' es') = True) ∧
  (∀ (ρ : List (Nat × Nat)) (bx : List (Nat × Box)) (bx0 : List (Nat × Box)) (v : AV) (T : Nat), FitV0 ρ bx bx0 v (.zp T) = (v = .zp T)) ∧
  (∀ (ρ : List (Nat × Nat)) (bx : List (Nat × Box)) (bx0 : List (Nat × Box)) (v : AV) (T : Nat), FitV ρ bx bx0 v (.zp T) = (v = .zp T)) ∧
  (∀ (T : Nat), cellF (.zp T) = true) ∧
  (∀ (x : D), cellF (.c x) = true) ∧
  (∀ (id ver : Nat), cellF (.osl id ver) = true) ∧
  (∀ (id rv p : Nat), cellF (.fsl id rv p) = true) ∧
  (∀ (id off : Nat), cellF (.bp id off) = true) ∧
  (∀ (id : Nat), cellF (.mp id) = true) ∧
  (∀ (ds : List D), cellF (.ip ds) = true) ∧
  (∀ (f : Nat) (cs : List AV), cellF (.fn f cs) = true) ∧
  (∀ (ρ : List (Nat × Nat)) (bx : List (Nat × Box)) (bx0 : List (Nat × Box)) (v : AV) (id0 : Nat), FitV0 ρ bx bx0 v (.mp id0) = FitM (ren ρ id0) (lookB (ren ρ id0) bx) (lookB id0 bx0) v) ∧
  (∀ (ρ : List (Nat × Nat)) (bx : List (Nat × Box)) (bx0 : List (Nat × Box)) (v : AV) (id0 : Nat), FitV ρ bx bx0 v (.mp id0) = FitM (ren ρ id0) (lookB (ren ρ id0) bx) (lookB id0 bx0) v) ∧
  (∀ (ρ : List (Nat × Nat)) (bx : List (Nat × Box)) (bx0 : List (Nat × Box)) (v : AV) (id0 rv0 p0 : Nat), FitV0 ρ bx bx0 v (.fsl id0 rv0 p0) = FitS (ren ρ id0) rv0 p0 (lookB (ren ρ id0) bx) (lookB id0 bx0) v) := by
  refine ⟨?_, ?_, ?_, ?_, ?_, ?_, ?_, ?_, ?_, ?_, ?_, ?_, ?_, ?_, ?_, ?_, ?_, ?_, ?_, ?_, ?_, ?_, ?_, ?_, ?_, ?_, ?_, ?_, ?_, ?_, ?_, ?_, ?_, ?_, ?_, ?_, ?_, ?_, ?_, ?_, ?_, ?_, ?_, ?_, ?_, ?_, ?_, ?_, ?_, ?_, ?_, ?_, ?_, ?_, ?_, ?_, ?_, ?_, ?_, ?_⟩ <;> intros <;> first | rfl | (rename_i v _ _ _ _ _ _; cases v <;> rfl) | (rename_i v _ _ _; cases v <;> rfl) | (rename_i v _ _; cases v <;> rfl)

theorem V12 : (∀ (ρ : List (Nat × Nat)) (bx : List (Nat × Box)) (bx0 : List (Nat × Box)) (v : AV) (id0 rv0 p0 : Nat), FitV ρ bx bx0 v (.fsl id0 rv0 p0) = FitS (ren ρ id0) rv0 p0 (lookB (ren ρ id0) bx) (lookB id0 bx0) v) ∧
  (∀ (id rv0 p0 id' rv p : Nat) (b b0 : Box), FitS id rv0 p0 b b0 (.fsl id' rv p) = (id' = id ∧ p = p0 ∧ SameR rv rv0 b b0)) ∧
  (∀ (rv rv0 e v r e' v' r' : Nat) (rows rows' : List (List (List D)) ), SameR rv rv0 (.nest e v r none rows) (.nest e' v' r' none rows') = (r = rv ∧ r' = rv0 ∧ e = e' ∧ rows = rows')) ∧
  (∀ (ρ : List (Nat × Nat)) (bx : List (Nat × Box)) (bx0 : List (Nat × Box)) (kt et kt' et' : Nat) (es es' : List (Value × Value)), FitB ρ bx bx0 (.map kt et es) (.map kt' et' es') = (kt = kt' ∧ et = et' ∧ es = es')) ∧
  (∀ (id idr kt et kt' et' : Nat) (es es' : List (Value × Value)) (b : Box), PinV id idr (.map kt et es) b (.map kt' et' es') = (idr = id)) ∧
  (∀ (σ : List (Nat × Nat)) (bc : List (Nat × Box)) (bx : List (Nat × Box)) (id : Nat), renA σ bc bx (.mp id) = .mp (ren σ id)) ∧
  (∀ (σ : List (Nat × Nat)) (bc : List (Nat × Box)) (bx : List (Nat × Box)) (vc v0 rc r0 kt et : Nat) (es : List (Value × Value)), reB σ bc bx vc v0 rc r0 (.map kt et es) = .map kt et es) ∧
  (∀ (kt et : Nat) (es : List (Value × Value)), boxTop (.map kt et es) = true) ∧
  (∀ (kt et : Nat) (es : List (Value × Value)) (b : Box), New1 (.map kt et es) b = True) ∧
  (∀ (kt et : Nat) (es : List (Value × Value)), verB (.map kt et es) = 0) ∧
  (∀ (k : Value), mfind k [] = none) ∧
  (∀ (k v : Value), mput k v [] = [(k, v)]) ∧
  (refsL [] = []) ∧
  (∀ (v : AV) (r : List AV), refsL (v :: r) = refs v ++ refsL r) ∧
  (refs .top = []) ∧
  (∀ (x : D), refs (.c x) = []) ∧
  (∀ (ds : List D), refs (.ag ds) = []) ∧
  (∀ (ds : List D), refs (.ip ds) = []) ∧
  (∀ (id ver : Nat), refs (.osl id ver) = [id]) ∧
  (∀ (id off : Nat), refs (.bp id off) = [id]) ∧
  (∀ (id ver i sz off : Nat), refs (.op id ver i sz off) = [id]) ∧
  (∀ (vs : List AV), refs (.tp vs) = refsL vs) ∧
  (∀ (f : Nat) (cs : List AV), refs (.fn f cs) = refsL cs) ∧
  (∀ (vs : List AV), refs (.agv vs) = refsL vs) ∧
  (∀ (id rv p : Nat), refs (.fsl id rv p) = [id]) ∧
  (∀ (id rv p j sz off : Nat), refs (.fop id rv p j sz off) = [id]) ∧
  (∀ (id ver lo n sz : Nat), refs (.csl id ver lo n sz) = [id]) ∧
  (∀ (id rv p n : Nat), refs (.cfl id rv p n) = [id]) ∧
  (∀ (x : Operand), rd (.move x) = [x]) ∧
  (∀ (x : Operand), rd (.assign x) = [x]) ∧
  (∀ (c a b : Operand), rd (.pick c a b) = [c, a, b]) ∧
  (∀ (t : Nat), rd (.alloc t) = []) ∧
  (∀ (t : Nat) (x : Operand), rd (.box t x) = [x]) ∧
  (∀ (t : Nat) (ps : List (Nat × Operand)), rd (.build t ps.toArray) = ps.map (·.2)) ∧
  (∀ (t n : Nat) (ps : List (Nat × Operand)), rd (.buildSlice t n ps.toArray) = ps.map (·.2)) ∧
  (∀ (t : Nat) (p : Operand), rd (.load t p) = [p]) ∧
  (∀ (t : Nat) (p x : Operand), rd (.store t p x) = [p, x]) ∧
  (∀ (x : Operand), rd (.nilCheck x) = [x]) ∧
  (∀ (t : Nat) (x i : Operand), rd (.indexAddr t x i) = [x, i]) ∧
  (∀ (t : Nat) (x i : Operand), rd (.index t x i) = [x, i]) ∧
  (∀ (t f : Nat) (x : Operand), rd (.fieldAddr t x f) = [x]) ∧
  (∀ (t f : Nat) (x : Operand), rd (.field t x f) = [x]) ∧
  (∀ (t : Nat) (x : Operand) (lo hi mx : Option Operand), rd (.slice t x lo hi mx) = x :: (lo.toList ++ hi.toList)) ∧
  (∀ (op : BinOp) (t t' : Nat) (x y : Operand), rd (.binOp op t x y t') = [x, y]) ∧
  (∀ (op : UnOp) (t : Nat) (x : Operand), rd (.unOp op t x) = [x]) ∧
  (∀ (t t' : Nat) (x : Operand), rd (.convert t t' x) = [x]) ∧
  (∀ (t : Nat) (l c : Operand), rd (.makeSlice t l c) = [l, c]) ∧
  (∀ (i : Nat) (x : Operand), rd (.extract x i) = [x]) ∧
  (∀ (f : Operand) (l : List Operand) (ts : Array Nat), rd (.call ⟨.value f, l.toArray, ts⟩) = f :: l) ∧
  (∀ (b : Builtin) (l : List Operand) (ts : Array Nat), rd (.call ⟨.builtin b, l.toArray, ts⟩) = l) ∧
  (∀ (k : IntKind) (a b : Int), intBin .add k a b = iv (.int k (k.wrap (a + b)))) ∧
  (∀ (k k' : IntKind) (a b : Int), binI .add k k' a b = cond (decide (k = k')) (intBin .add k a b) .bad) ∧
  (∀ (k : IntKind) (a b : Int), intBin .sub k a b = iv (.int k (k.wrap (a - b)))) ∧
  (∀ (k k' : IntKind) (a b : Int), binI .sub k k' a b = cond (decide (k = k')) (intBin .sub k a b) .bad) ∧
  (∀ (k : IntKind) (a b : Int), intBin .mul k a b = iv (.int k (k.wrap (a * b)))) ∧
  (∀ (k k' : IntKind) (a b : Int), binI .mul k k' a b = cond (decide (k = k')) (intBin .mul k a b) .bad) ∧
  (∀ (k : IntKind) (a b : Int), intBin .quo k a b = .ob (b ≠ 0) (iv (.int k (k.wrap (a.tdiv b))))) ∧
  (∀ (k k' : IntKind) (a b : Int), binI .quo k k' a b = cond (decide (k = k')) (intBin .quo k a b) .bad) ∧
  (∀ (k : IntKind) (a b : Int), intBin .rem k a b = .ob (b ≠ 0) (iv (.int k (a.tmod b)))) ∧
  (∀ (k k' : IntKind) (a b : Int), binI .rem k k' a b = cond (decide (k = k')) (intBin .rem k a b) .bad) := by
  refine ⟨?_, ?_, ?_, ?_, ?_, ?_, ?_, ?_, ?_, ?_, ?_, ?_, ?_, ?_, ?_, ?_, ?_, ?_, ?_, ?_, ?_, ?_, ?_, ?_, ?_, ?_, ?_, ?_, ?_, ?_, ?_, ?_, ?_, ?_, ?_, ?_, ?_, ?_, ?_, ?_, ?_, ?_, ?_, ?_, ?_, ?_, ?_, ?_, ?_, ?_, ?_, ?_, ?_, ?_, ?_, ?_, ?_, ?_, ?_, ?_⟩ <;> intros <;> first | rfl | (rename_i v _ _ _ _ _ _; cases v <;> rfl) | (rename_i v _ _ _; cases v <;> rfl) | (rename_i v _ _; cases v <;> rfl)

theorem V13 : (∀ (k : IntKind) (a b : Int), intBin .eql k a b = iv (.bool (a == b))) ∧
  (∀ (k k' : IntKind) (a b : Int), binI .eql k k' a b = cond (decide (k = k')) (intBin .eql k a b) .bad) ∧
  (∀ (k : IntKind) (a b : Int), intBin .neq k a b = iv (.bool (a != b))) ∧
  (∀ (k k' : IntKind) (a b : Int), binI .neq k k' a b = cond (decide (k = k')) (intBin .neq k a b) .bad) ∧
  (∀ (k : IntKind) (a b : Int), intBin .lss k a b = iv (.bool (decide (a < b)))) ∧
  (∀ (k k' : IntKind) (a b : Int), binI .lss k k' a b = cond (decide (k = k')) (intBin .lss k a b) .bad) ∧
  (∀ (k : IntKind) (a b : Int), intBin .leq k a b = iv (.bool (decide (a ≤ b)))) ∧
  (∀ (k k' : IntKind) (a b : Int), binI .leq k k' a b = cond (decide (k = k')) (intBin .leq k a b) .bad) ∧
  (∀ (k : IntKind) (a b : Int), intBin .gtr k a b = iv (.bool (decide (b < a)))) ∧
  (∀ (k k' : IntKind) (a b : Int), binI .gtr k k' a b = cond (decide (k = k')) (intBin .gtr k a b) .bad) ∧
  (∀ (k : IntKind) (a b : Int), intBin .geq k a b = iv (.bool (decide (b ≤ a)))) ∧
  (∀ (k k' : IntKind) (a b : Int), binI .geq k k' a b = cond (decide (k = k')) (intBin .geq k a b) .bad) ∧
  (∀ (k : IntKind) (a b : Int), intBin .and k a b = iv (.int k (bits .and k a b))) ∧
  (∀ (k k' : IntKind) (a b : Int), binI .and k k' a b = cond (decide (k = k')) (intBin .and k a b) .bad) ∧
  (∀ (k : IntKind) (a b : Int), intBin .or k a b = iv (.int k (bits .or k a b))) ∧
  (∀ (k k' : IntKind) (a b : Int), binI .or k k' a b = cond (decide (k = k')) (intBin .or k a b) .bad) ∧
  (∀ (k : IntKind) (a b : Int), intBin .xor k a b = iv (.int k (bits .xor k a b))) ∧
  (∀ (k k' : IntKind) (a b : Int), binI .xor k k' a b = cond (decide (k = k')) (intBin .xor k a b) .bad) ∧
  (∀ (k : IntKind) (a b : Int), intBin .andNot k a b = iv (.int k (bits .andNot k a b))) ∧
  (∀ (k k' : IntKind) (a b : Int), binI .andNot k k' a b = cond (decide (k = k')) (intBin .andNot k a b) .bad) ∧
  (∀ (k k' : IntKind) (a b : Int), eqI [.sc (.int k a)] [.sc (.int k' b)] = cond (decide (k = k')) (some (a == b)) none) ∧
  (∀ (E : Env) (op : BinOp) (ti : Option TI) (n c : Nat), binAV E op ti (.c (.sc (.slice none n c))) (.c (.sc (.slice none 0 0))) = nilT op true ti) ∧
  (∀ (E : Env) (op : BinOp) (ti : Option TI) (ad : Addr) (n c : Nat), binAV E op ti (.c (.sc (.slice (some ad) n c))) (.c (.sc (.slice none 0 0))) = nilT op false ti) ∧
  (∀ (E : Env) (op : BinOp) (ti : Option TI) (xs : List (List D)), binAV E op ti (.c (.sl xs)) (.c (.sc (.slice none 0 0))) = .ob (xs ≠ []) (nilT op false ti)) ∧
  (∀ (op : BinOp) (t : Bool) (ti : TI), nilT op t (some ti) = nilK op t ti.kind) ∧
  (∀ (op : BinOp) (t : Bool) (e : Nat), nilK op t (.slice e) = nilB op t) ∧
  (∀ (t : Bool), nilB .eql t = iv (.bool t)) ∧
  (∀ (t : Bool), nilB .neq t = iv (.bool (!t))) ∧
  (∀ (i : Nat) (K : S → Prop) (Q : Exit → S → Prop) (s : S), cutQ i K Q .normal s = Q .normal s) ∧
  (∀ (i : Nat) (K : S → Prop) (Q : Exit → S → Prop) (s : S), cutQ i K Q .ret s = Q .ret s) ∧
  (∀ (i j : Nat) (K : S → Prop) (Q : Exit → S → Prop) (s : S), cutQ i K Q (.exit j) s = cond (i == j) (K s) (Q (.exit j) s)) ∧
  (∀ (fr : List (Nat × AV)), pushP [] [] fr = fr) ∧
  (∀ (fr : List (Nat × AV)) (p : Nat) (ps : List Nat) (v : AV) (vs : List AV), pushP (p :: ps) (v :: vs) fr = pushP ps vs ((p, v) :: fr)) ∧
  (∀ (fr0 : List (Nat × AV)) (back : S → Prop) (Q : Exit → S → Prop) (fr : List (Nat × AV)) (bx : List (Nat × Box)), RoundQ fr0 back Q .normal ⟨fr, bx⟩ = back ⟨fr0, bx⟩) ∧
  (∀ (fr0 : List (Nat × AV)) (back : S → Prop) (Q : Exit → S → Prop) (fr : List (Nat × AV)) (bx : List (Nat × Box)), RoundQ fr0 back Q .ret ⟨fr, bx⟩ = Q .ret ⟨fr0, bx⟩) ∧
  (∀ (fr0 : List (Nat × AV)) (back : S → Prop) (Q : Exit → S → Prop) (fr : List (Nat × AV)) (bx : List (Nat × Box)) (i : Nat), RoundQ fr0 back Q (.exit i) ⟨fr, bx⟩ = Q (.exit i) ⟨fr0, bx⟩) ∧
  (∀ (ρ : List (Nat × Nat)), keysR ρ [] = []) ∧
  (∀ (ρ : List (Nat × Nat)) (i : Nat) (b : Box) (r : List (Nat × Box)), keysR ρ ((i, b) :: r) = ren ρ i :: keysR ρ r) ∧
  (∀ (E : Env) (rs : List RS) (r : AV) (s : S), retCQ E rs r .normal s = retC E rs r s (outL E s rs)) ∧
  (∀ (E : Env) (rs : List RS) (r : AV) (s : S), retCQ E rs r .ret s = retC E rs r s (outL E s rs)) ∧
  (∀ (E : Env) (rs : List RS) (r : AV) (fr : List (Nat × AV)) (bx : List (Nat × Box)) (avs : List AV), retC E rs r ⟨fr, bx⟩ (some avs) = RetVC E r bx avs) ∧
  (∀ (E : Env) (s : S), outL E s [] = some []) ∧
  (∀ (E : Env) (s : S) (r : RS) (rs : List RS), outL E s (r :: rs) = consO (outO E s r) (outL E s rs)) ∧
  (∀ (v : AV) (l : List AV), consO (some v) (some l) = some (v :: l)) ∧
  (∀ (E : Env) (fr : List (Nat × AV)) (bx : List (Nat × Box)) (t : Nat), outO E ⟨fr, bx⟩ (.tmp t) = some (look t fr)) ∧
  (∀ (E : Env) (fr : List (Nat × AV)) (bx : List (Nat × Box)) (t ty : Nat), outO E ⟨fr, bx⟩ (.cell t ty) = loadedT bx (look t fr) (E ty)) ∧
  (∀ (bx : List (Nat × Box)) (p : AV) (ti : TI), loadedT bx p (some ti) = loadedP ti bx p) ∧
  (∀ (ti : TI) (bx : List (Nat × Box)) (id off : Nat), loadedP ti bx (.bp id off) = loadedB ti off (lookB id bx)) ∧
  (∀ (ti : TI) (off : Nat) (cs : List AV), loadedB ti off (.cells cs) = loadedC (loadC ti (cs.drop off))) ∧
  (∀ (v : AV), loadedC (.val v []) = some v) ∧
  (∀ (P : Program) (E : Env) (L : Sus) (l0 : Nat) (es : List (List AV)) (QY : Exit → Option Nat → S → Prop) (gh : Option Nat) (s : S), vcY P E L l0 es .skip QY gh s = QY .normal gh s) ∧
  (∀ (P : Program) (E : Env) (L : Sus) (l0 : Nat) (es : List (List AV)) (QY : Exit → Option Nat → S → Prop) (gh : Option Nat) (s : S) (id : Nat) (l : List Oper), vcY P E L l0 es (.region id l.toArray false) QY gh s = vcOpsY P E l0 es l (QY .normal) l gh s) ∧
  (∀ (P : Program) (E : Env) (L : Sus) (l0 : Nat) (es : List (List AV)) (QY : Exit → Option Nat → S → Prop) (gh : Option Nat) (s : S) (id : Nat) (l : List Oper), vcY P E L l0 es (.region id l.toArray true) QY gh s = vcD P E [] l (QY .normal gh) s (susOf id L)) ∧
  (∀ (P : Program) (E : Env) (L : Sus) (l0 : Nat) (es : List (List AV)) (QY : Exit → Option Nat → S → Prop) (gh : Option Nat) (s : S) (a b : Code), vcY P E L l0 es (.seq a b) QY gh s = vcY P E L l0 es a (thenY (vcY P E L l0 es b QY) QY) gh s) ∧
  (∀ (P : Program) (E : Env) (L : Sus) (l0 : Nat) (es : List (List AV)) (QY : Exit → Option Nat → S → Prop) (gh : Option Nat) (s : S) (c : Operand) (a b : Code), vcY P E L l0 es (.cond c a b) QY gh s = condA (vcY P E L l0 es a QY gh) (vcY P E L l0 es b QY gh) s (ev s.fr c)) ∧
  (∀ (P : Program) (E : Env) (L : Sus) (l0 : Nat) (es : List (List AV)) (QY : Exit → Option Nat → S → Prop) (gh : Option Nat) (s : S) (id : Nat) (c : Code), vcY P E L l0 es (.block id c) QY gh s = vcY P E L l0 es c (blockY id QY) gh s) ∧
  (∀ (P : Program) (E : Env) (L : Sus) (l0 : Nat) (es : List (List AV)) (QY : Exit → Option Nat → S → Prop) (gh : Option Nat) (s : S) (c : Code), vcY P E L l0 es (.loop c) QY gh s = LoopY E (vcY P E L l0 es c) QY gh s) ∧
  (∀ (P : Program) (E : Env) (L : Sus) (l0 : Nat) (es : List (List AV)) (QY : Exit → Option Nat → S → Prop) (gh : Option Nat) (s : S) (i : Nat), vcY P E L l0 es (.exit i) QY gh s = QY (.exit i) gh s) ∧
  (∀ (P : Program) (E : Env) (L : Sus) (l0 : Nat) (es : List (List AV)) (QY : Exit → Option Nat → S → Prop) (gh : Option Nat) (s : S), vcY P E L l0 es .ret QY gh s = QY .ret gh s) ∧
  (∀ (P : Program) (E : Env) (L : Sus) (l0 : Nat) (es : List (List AV)) (QY : Exit → Option Nat → S → Prop) (gh : Option Nat) (s : S) (c : Code), vcY P E L l0 es (.scope c) QY gh s = vcY P E L l0 es c (scopeY QY) gh s) := by
  refine ⟨?_, ?_, ?_, ?_, ?_, ?_, ?_, ?_, ?_, ?_, ?_, ?_, ?_, ?_, ?_, ?_, ?_, ?_, ?_, ?_, ?_, ?_, ?_, ?_, ?_, ?_, ?_, ?_, ?_, ?_, ?_, ?_, ?_, ?_, ?_, ?_, ?_, ?_, ?_, ?_, ?_, ?_, ?_, ?_, ?_, ?_, ?_, ?_, ?_, ?_, ?_, ?_, ?_, ?_, ?_, ?_, ?_, ?_, ?_, ?_⟩ <;> intros <;> first | rfl | (rename_i v _ _ _ _ _ _; cases v <;> rfl) | (rename_i v _ _ _; cases v <;> rfl) | (rename_i v _ _; cases v <;> rfl)

theorem V14 : (∀ (P : Program) (E : Env) (L : Sus) (l0 : Nat) (es : List (List AV)) (QY : Exit → Option Nat → S → Prop) (gh : Option Nat) (s : S) (l : Nat), vcY P E L l0 es (.label l) QY gh s = QY .normal gh s) ∧
  (∀ (QY : Exit → Option Nat → S → Prop) (gh : Option Nat) (s : S), scopeY QY .normal gh s = QY .normal gh s) ∧
  (∀ (QY : Exit → Option Nat → S → Prop) (gh : Option Nat) (s : S), scopeY QY .ret gh s = QY .ret gh s) ∧
  (∀ (QY : Exit → Option Nat → S → Prop) (gh : Option Nat) (s : S) (i : Nat), scopeY QY (.exit i) gh s = QY (.exit i) gh s) ∧
  (∀ (KY : Option Nat → S → Prop) (QY : Exit → Option Nat → S → Prop) (gh : Option Nat) (s : S), thenY KY QY .normal gh s = KY gh s) ∧
  (∀ (KY : Option Nat → S → Prop) (QY : Exit → Option Nat → S → Prop) (gh : Option Nat) (s : S) (i : Nat), thenY KY QY (.exit i) gh s = QY (.exit i) gh s) ∧
  (∀ (KY : Option Nat → S → Prop) (QY : Exit → Option Nat → S → Prop) (gh : Option Nat) (s : S), thenY KY QY .ret gh s = QY .ret gh s) ∧
  (∀ (id : Nat) (QY : Exit → Option Nat → S → Prop) (gh : Option Nat) (s : S), blockY id QY .normal gh s = QY .normal gh s) ∧
  (∀ (id : Nat) (QY : Exit → Option Nat → S → Prop) (gh : Option Nat) (s : S), blockY id QY .ret gh s = QY .ret gh s) ∧
  (∀ (id i : Nat) (QY : Exit → Option Nat → S → Prop) (gh : Option Nat) (s : S), blockY id QY (.exit i) gh s = cond (i == id) (QY .normal gh s) (QY (.exit i) gh s)) ∧
  (∀ (P : Program) (E : Env) (l0 : Nat) (es : List (List AV)) (all : List Oper) (KY : Option Nat → S → Prop) (gh : Option Nat) (s : S), vcOpsY P E l0 es all KY [] gh s = KY gh s) ∧
  (∀ (P : Program) (E : Env) (l0 : Nat) (es : List (List AV)) (all : List Oper) (KY : Option Nat → S → Prop) (r : List Oper) (gh : Option Nat) (s : S) (dst : Option Nat) (op : Op) (ty : Nat) (pos : String) (aft : Array Edge) (g : Option (Nat × Bool)), vcOpsY P E l0 es all KY (⟨dst, op, ty, pos, aft, g⟩ :: r) gh s = stepY P E l0 es (dstN dst) (lookB (dstN dst) s.bx) (nextY dst (vcOpsY P E l0 es all KY r)) (opG E all s ⟨dst, op, ty, pos, aft, g⟩) gh s) ∧
  (∀ (P : Program) (E : Env) (l0 : Nat) (es : List (List AV)) (d : Nat) (b : Box) (WY : Option Nat → AV → Upd → S → Prop) (gh : Option Nat) (s : S) (l : Nat) (fst caps : Array Value) (args : List AV), stepY P E l0 es d b WY (.yld l fst caps args) gh s = YieldVC l0 l fst caps es args WY gh s) ∧
  (∀ (P : Program) (E : Env) (l0 : Nat) (es : List (List AV)) (d : Nat) (b : Box) (WY : Option Nat → AV → Upd → S → Prop) (gh : Option Nat) (s : S) (v : AV) (u : Upd), stepY P E l0 es d b WY (.val v u) gh s = WY gh v u s) ∧
  (∀ (P : Program) (E : Env) (l0 : Nat) (es : List (List AV)) (d : Nat) (b : Box) (WY : Option Nat → AV → Upd → S → Prop) (gh : Option Nat) (s : S) (p : Prop) (r : R), stepY P E l0 es d b WY (.ob p r) gh s = (p ∧ stepR P E (some []) d b (WY gh) r s)) ∧
  (∀ (P : Program) (E : Env) (l0 : Nat) (es : List (List AV)) (d : Nat) (b : Box) (WY : Option Nat → AV → Upd → S → Prop) (gh : Option Nat) (s : S) (t : Bool) (x y : R), stepY P E l0 es d b WY (.br t x y) gh s = guardB s (stepR P E (some []) d b (WY gh) x) (stepR P E (some []) d b (WY gh) y) t) ∧
  (∀ (P : Program) (E : Env) (l0 : Nat) (es : List (List AV)) (d : Nat) (b : Box) (WY : Option Nat → AV → Upd → S → Prop) (gh : Option Nat) (s : S) (f : Nat) (args raw : List AV) (u : Upd), stepY P E l0 es d b WY (.call f args u raw) gh s = CallX P E (some []) d b f args u raw (WY gh) s) ∧
  (∀ (P : Program) (E : Env) (l0 : Nat) (es : List (List AV)) (d : Nat) (b : Box) (WY : Option Nat → AV → Upd → S → Prop) (gh : Option Nat) (s : S) (f : Nat) (raw : List AV), stepY P E l0 es d b WY (.callM f raw) gh s = CallMVC P E [] f raw (WY gh) s) ∧
  (∀ (d : Option Nat) (KY : Option Nat → S → Prop) (gh : Option Nat) (v : AV) (u : Upd) (s : S), nextY d KY gh v u s = KY gh (putU s d v u)) ∧
  (∀ (es : List (List AV)) (gh : Option Nat) (s : S), seqQ es .normal gh s = doneY es gh) ∧
  (∀ (es : List (List AV)) (gh : Option Nat) (s : S), seqQ es .ret gh s = doneY es gh) ∧
  (∀ (es : List (List AV)) (k : Nat), doneY es (some k) = (k = es.length)) ∧
  (∀ (es : List (List AV)), doneY es none = True) ∧
  (∀ (l : Nat), yieldV l = .c (.sc (.func (.yield l) #[] #[]))) ∧
  (∀ (bx : List (Nat × Box)) (x : D) (l : Nat) (fst caps : Array Value), FitC bx x (.c (.sc (.func (.yield l) fst caps))) = (.sc (.func (.yield l) fst caps) = x)) ∧
  (flatL [] = true) ∧
  (∀ (v : AV) (r : List AV), flatL (v :: r) = cond (flatA v) (flatL r) false) ∧
  (∀ (x : D), flatA (.c x) = scD x) ∧
  (∀ (ds : List D), flatA (.ag ds) = ds.all scD) ∧
  (∀ (E : Env) (bx : List (Nat × Box)) (d : Nat) (x y : AV) (n b e : Nat) (z : List Value) (ow : Bool) (t : Option TI), appStr E bx d x y (some ⟨n, b, z, .slice e, ow⟩) t = cond (byteT (E e) && strT t) (appSY bx d e x y) .bad) ∧
  (∀ (ow : Bool), byteT (some ⟨1, 1, [.int .u8 0], .int .u8, ow⟩) = true) ∧
  (∀ (n b : Nat) (z : List Value) (ow : Bool), strT (some ⟨n, b, z, .str, ow⟩) = true) ∧
  (∀ (bx : List (Nat × Box)) (d : Nat) (e : Nat) (x : AV) (str : ByteArray), appSY bx d e x (.c (.sc (.string str))) = appSX bx d e (strD str) x) ∧
  (∀ (bx : List (Nat × Box)) (d : Nat) (e : Nat) (src : List (List D)), appSX bx d e src (.c (.sc (.slice none 0 0))) = appN 1 1 d e (some src) (lookB d bx)) ∧
  (∀ (bx : List (Nat × Box)) (d : Nat) (e : Nat) (src : List (List D)) (id ver : Nat), appSX bx d e src (.osl id ver) = appO 1 1 id e ver (some src) (lookB id bx)) ∧
  (∀ (P : Program) (E : Env) (pb : List (Nat × Box)) (K : List PanicEntry → S → Prop) (s : S) (x : Operand), panO P E pb K s (.panic x) = panK K s (ev s.fr x)) ∧
  (∀ (P : Program) (E : Env) (pb : List (Nat × Box)) (K : List PanicEntry → S → Prop) (s : S) (f : Nat) (args : List Operand) (ts : Array Nat), panO P E pb K s (.call ⟨.value (.func f), args.toArray, ts⟩) = PanCall P E pb f (args.map (ev s.fr)) K s) ∧
  (∀ (K : List PanicEntry → S → Prop) (s : S) (t : Nat) (x : Value), panK K s (.c (.sc (.iface t x))) = K [{ v := .iface t x, recovered := false }] s) ∧
  (∀ (hs : List Nat) (bx : List (Nat × Box)), KeptP hs bx [] = True) ∧
  (∀ (hs : List Nat) (bx : List (Nat × Box)) (i : Nat) (b : Box) (r : List (Nat × Box)), KeptP hs bx ((i, b) :: r) = ((lookB i bx = b ∧ plnB b = true ∧ memN i hs = false) ∧ KeptP hs bx r)) ∧
  (∀ (fr : List (Nat × AV)) (kb : List (Nat × Box)), KeptF fr kb [] = True) ∧
  (∀ (kb : List (Nat × Box)), PinK kb [] = True) ∧
  (∀ (kb : List (Nat × Box)) (i : Nat) (b : Box) (r : List (Nat × Box)), PinK kb ((i, b) :: r) = (plnL (lookB i kb) = true ∧ PinK kb r)) ∧
  (∀ (fr : List (Nat × AV)) (kb : List (Nat × Box)) (i : Nat) (v : AV) (r : List (Nat × AV)), KeptF fr kb ((i, v) :: r) = ((look i fr = v ∧ bpK kb v = true) ∧ KeptF fr kb r)) ∧
  (∀ (kb : List (Nat × Box)) (i o : Nat), bpK kb (.bp i o) = plnL (lookB i kb)) ∧
  (∀ (cs : List AV), plnL (.cells cs) = true) ∧
  (∀ (cs : List AV), plnB (.cells cs) = cs.all plnC) ∧
  (∀ (x : Value), plnC (.c (.sc x)) = true) := by
  refine ⟨?_, ?_, ?_, ?_, ?_, ?_, ?_, ?_, ?_, ?_, ?_, ?_, ?_, ?_, ?_, ?_, ?_, ?_, ?_, ?_, ?_, ?_, ?_, ?_, ?_, ?_, ?_, ?_, ?_, ?_, ?_, ?_, ?_, ?_, ?_, ?_, ?_, ?_, ?_, ?_, ?_, ?_, ?_, ?_, ?_, ?_, ?_, ?_⟩ <;> intros <;> first | rfl | (rename_i v _ _ _ _ _ _; cases v <;> rfl) | (rename_i v _ _ _; cases v <;> rfl) | (rename_i v _ _; cases v <;> rfl)


end Go.Vx
end

section
set_option linter.unusedVariables false
set_option linter.unusedSimpArgs false
namespace Go.Vx
open Go

theorem VL : (∀ (α : Type) (a b : α), (some a).getD b = a) ∧ (∀ (α : Type) (a b : α), cond true a b = a) ∧ (∀ (α : Type) (a b : α), cond false a b = b) ∧
  (∀ (α : Type) (l : List α), [] ++ l = l) ∧ (∀ (α : Type) (l : List α), l ++ [] = l) ∧ (∀ (α : Type) (a : α) (l m : List α), (a :: l) ++ m = a :: (l ++ m)) ∧
  (∀ (α β : Type) (f : α → β) (a : α), (some a).map f = some (f a)) ∧ (∀ (α β : Type) (f : α → β), (none : Option α).map f = none) ∧
  (∀ (α β : Type) (f : α → β) (a : α) (l : List α), (a :: l).map f = f a :: l.map f) ∧ (∀ (α β : Type) (f : α → β), ([] : List α).map f = []) ∧
  (∀ (α : Type) (l : List α), l.drop 0 = l) ∧ (∀ (α : Type) (a : α) (l : List α) (n : Nat), (a :: l).drop (n + 1) = l.drop n) ∧ (∀ (α : Type) (a : α) (l : List α) (n : Nat), (a :: l).take (n + 1) = a :: l.take n) ∧
  (∀ (α : Type) (l : List α), l.take 0 = []) ∧ (∀ (α : Type) (n : Nat), ([] : List α).drop n = []) ∧ (∀ (α : Type) (n : Nat), ([] : List α).take n = []) ∧
  (∀ (α : Type) (a : α) (l : List α), (a :: l).length = l.length + 1) ∧ (∀ (α : Type), ([] : List α).length = 0) ∧
  (∀ (α : Type) (a : α) (l : List α), (a :: l)[0]? = some a) ∧ (∀ (α : Type) (a : α) (l : List α) (n : Nat), (a :: l)[n + 1]? = l[n]?) ∧
  (∀ (α β : Type) (f : α → β) (l : List α), (l.map f).length = l.length) ∧ (∀ (α : Type) (a : α), (a = a) = True) := by
  refine ⟨?_, ?_, ?_, ?_, ?_, ?_, ?_, ?_, ?_, ?_, ?_, ?_, ?_, ?_, ?_, ?_, ?_, ?_, ?_, ?_, ?_, ?_⟩ <;> intros <;> simp
theorem VB : (∀ b : Bool, (false == b) = !b) ∧ (∀ b : Bool, (true == b) = b) ∧ (∀ b : Bool, (b == true) = b) ∧ (∀ b : Bool, (b == false) = !b) ∧ ((!true) = false) ∧ ((!false) = true) ∧ (∀ b : Bool, (!!b) = b) ∧
  (∀ h : Decidable True, @decide True h = true) ∧ (∀ h : Decidable False, @decide False h = false) ∧ (∀ b : Bool, (b && true) = b) ∧ (∀ b : Bool, (true && b) = b) ∧ (∀ b : Bool, (b && false) = false) ∧ (∀ b : Bool, (false && b) = false) ∧
  (∀ n : Nat, (n : Int).toNat = n) ∧ ((0 : Int).toNat = 0) ∧ (∀ n : Nat, n + 0 = n) ∧ (∀ n : Nat, 0 + n = n) ∧ (∀ p : Prop, (True ∧ p) = p) ∧ (∀ p : Prop, (p ∧ True) = p) ∧ (∀ p : Prop, (True ∨ p) = True) ∧ (∀ p : Prop, (p ∨ True) = True) ∧ (∀ p : Prop, (p ∨ False) = p) ∧ (∀ p : Prop, (False ∨ p) = p) := by
  refine ⟨?_, ?_, ?_, ?_, ?_, ?_, ?_, ?_, ?_, ?_, ?_, ?_, ?_, ?_, ?_, ?_, ?_, ?_, ?_, ?_, ?_, ?_, ?_⟩ <;> intros <;> simp

end Go.Vx
end
