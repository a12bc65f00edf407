/-
  What is walked in a function's own frame is walked alike in the frame of a round of a loop over a function, where no call is deferred. Conditions: none.
  The verification-condition generator over Code: definitions; soundness of a region's conditions, of what is carried into a loop, of a function's contract. Conditions: none.
  Soundness of the verification-condition generator: what is carried over under new names; a call that is handed boxes. Conditions: none.
  Soundness of the verification-condition generator: a walk that goes on in a later context. Conditions: none.
  Soundness of the verification-condition generator: a call that is handed boxes. Conditions: none.
  Soundness of the verification-condition generator: regions that may end in a panic; calls that do. Conditions: none.
  Soundness of the verification-condition generator: loops over functions, from the caller's side. Conditions: none.
  Soundness of the verification-condition generator: the statement 'for .. := range f'. Conditions: none.
-/
import Derived.OrdersIn
import Derived.RangeFuncRecord
import Derived.RangeFuncSeq
import Derived.Test.YtiioldgdgfdjeaaMP
import Derived.LoopN
import Derived.RangeFuncIn

section
set_option linter.unusedVariables false
namespace Go.Vx
open Go

/-- every function may be called, to any depth, in a function's frame or in that of a round -/
def fenceR (r : Option Nat) : Fence := { Fence.wide with round := r }

def notDefer : Op → Bool
  | .defer _ => false
  | _ => true
theorem notDefer_ne {o : Op} (h : notDefer o = true) (c : Call) : o ≠ .defer c := by
  rintro rfl
  cases h

variable {r : Option Nat} {n : Nat} {P : Program} {ops : Array Oper} {Q Q0 : Exit → Act → World → Prop}

theorem callsR {f : FuncId} {args : Array Value} {w : World} {R : Ending → World → Prop} (h : Calls P f args w R) : CallsIn (fenceR r) n P f args w R :=
  (callsIn_wide (n := n)).2 h
theorem calls_of {f : FuncId} {args : Array Value} {w : World} {R : Ending → World → Prop} (h : CallsIn (fenceR r) n P f args w R) : Calls P f args w R :=
  (callsIn_wide (n := n)).1 h

theorem noDepth (h : (fenceR r).depth.isSome = true) : 1 ≤ n := by cases h

theorem oper_in {o : Oper} {a : Act} {w : World} {K : Act → World → Prop} (hd : r = none ∨ notDefer o.op = true) (hQ : ∀ e a w, Q0 e a w → e = .normal) (h : o.wp P a w K Q0) : o.wpIn (fenceR r) n P a w K Q := by
  refine ⟨fun _ _ => trivial, ?_⟩
  have e : o.semAt (fenceR r).round a.eval = execOp a.eval o := by
    rcases hd with rfl | hd
    · rfl
    · exact Oper.semAt_eq _ _ _ (notDefer_ne hd)
  rw [e]
  unfold Oper.wp at h
  generalize (execOp a.eval o).run P w = res at h
  cases res with
  | ok x w' =>
    cases x <;> simp only [Oper.upon] at h <;> try (exact h.elim)
    case value v => exact h
    case skip => exact h
    case defer d => exact h
    case enter f args =>
      refine ⟨noDepth, callsR (h.mono fun e w'' he => ?_)⟩
      cases e with
      | returned v => exact he
      | panicked chain => have := hQ _ _ _ he; cases this
      | outgrown => obtain ⟨_, _, he⟩ := he; have := hQ _ _ _ he; cases this
    case row row args =>
      refine ⟨noDepth, fun c cs _ => ?_⟩
      obtain ⟨v, w'', hr, hs⟩ := h c cs
      exact ⟨v, w'', hr, stepsIn_wide.2 hs⟩
  | halt x w' =>
    cases x <;> simp only [Oper.upon] at h <;> try (exact h.elim)
    have := hQ _ _ _ h
    cases this

theorem op_in {i : Nat} {a : Act} {w : World} {K : Act → World → Prop} (hd : r = none ∨ ∀ o ∈ ops.toList, notDefer o.op = true) (hQ : ∀ e a w, Q0 e a w → e = .normal) (h : wpOp P ops Q0 i K a w) : wpOpIn (fenceR r) n P ops Q i K a w := by
  unfold wpOp at h
  unfold wpOpIn
  cases ho : ops[i]? with
  | none => rw [ho] at h; exact h
  | some o =>
    rw [ho] at h
    simp only [] at h ⊢
    have hd' : r = none ∨ notDefer o.op = true := hd.imp id fun hd => hd o (List.mem_of_getElem? (by rw [Array.getElem?_toList]; exact ho))
    split
    · rename_i hw
      rw [if_pos hw] at h
      rcases h with h | ⟨_, _, _, h⟩
      · exact oper_in hd' hQ h
      · have := hQ _ _ _ h; cases this
    · rename_i hw
      rw [if_neg hw] at h
      exact ⟨fun _ _ => trivial, h⟩

theorem ops_in (hd : r = none ∨ ∀ o ∈ ops.toList, notDefer o.op = true) (hQ : ∀ e a w, Q0 e a w → e = .normal) (hN : ∀ a w, Q0 .normal a w → Q .normal a w) : ∀ (l : List Nat) (a : Act) (w : World), wpOps P ops Q0 l a w → wpOpsIn (fenceR r) n P ops Q l a w
  | [], a, w, h => hN a w h
  | i :: l, a, w, h => by
    rw [wpOps_cons] at h
    rw [wpOpsIn_cons]
    exact wpOpIn_mono (fun a w h => ops_in hd hQ hN l a w h) (op_in hd hQ h)

theorem any_in {md : Region.Mode} (hd : r = none ∨ ∀ o ∈ ops.toList, notDefer o.op = true) (hQ : ∀ e a w, Q0 e a w → e = .normal) (hN : ∀ a w, Q0 .normal a w → Q .normal a w) : ∀ (fuel : Nat) (listed : Array Bool) (a : Act) (w : World), wpAny P md ops Q0 fuel listed a w → wpAnyIn (fenceR r) n P md ops Q fuel listed a w
  | 0, listed, a, w, h => ⟨h.1, hN a w h.2⟩
  | fuel + 1, listed, a, w, h => ⟨fun hr => hN a w (h.1 hr), fun i hi => wpOpIn_mono (fun a w h => any_in hd hQ hN fuel _ a w h) (op_in hd hQ (h.2 i hi))⟩

/-- a call of yield -/
def YieldW (P : Program) (l : Nat) (vs : Array Value) (W : World) (R : Ending → World → Prop) : Prop := ∀ n, YieldAt (fenceR none) n P l vs W R

end Go.Vx
end

section
set_option linter.unusedVariables false
namespace Go.Vx
open Go Go.RowKit

/-! ### definitions -/
def guardB (s : S) (run skip : S → Prop) : Bool → Prop
  | true => run s
  | false => skip s
def memN (i : Nat) : List Nat → Bool
  | [] => false
  | j :: r => cond (i == j) true (memN i r)
/-! what is carried into a loop: facts are dropped, boxes take new names, an empty slice is owned -/
def ren : List (Nat × Nat) → Nat → Nat
  | [], i => i
  | p :: r, i => cond (i == p.1) p.2 (ren r i)
def SameO (ver ver0 : Nat) : Box → Box → Prop
  | .arr e v xs, .arr e' v' xs' => v = ver ∧ v' = ver0 ∧ e = e' ∧ xs = xs'
  | .frz v xs, .frz v' xs' => v = ver ∧ v' = ver0 ∧ xs = xs'
  | .nest e v _ none rows, .nest e' v' _ none rows' => v = ver ∧ v' = ver0 ∧ e = e' ∧ rows = rows'
  | _, _ => False
def FitO (id ver0 : Nat) (b b0 : Box) : AV → Prop
  | .osl id' ver => id' = id ∧ SameO ver ver0 b b0
  | _ => False
def bothC : Box → Box → Prop
  | .cells _, .cells _ => True
  | _, _ => False
def FitP (id off0 : Nat) (b b0 : Box) : AV → Prop
  | .bp id' off => id' = id ∧ off = off0 ∧ bothC b b0
  | _ => False
def bothM : Box → Box → Prop
  | .map _ _ _, .map _ _ _ => True
  | _, _ => False
def FitM (id : Nat) (b b0 : Box) : AV → Prop
  | .mp id' => id' = id ∧ bothM b b0
  | _ => False
/-- the same row -/
def SameR (rv rv0 : Nat) : Box → Box → Prop
  | .nest e _ r none rows, .nest e' _ r' none rows' => r = rv ∧ r' = rv0 ∧ e = e' ∧ rows = rows'
  | _, _ => False
def FitS (id rv0 p0 : Nat) (b b0 : Box) : AV → Prop
  | .fsl id' rv p => id' = id ∧ p = p0 ∧ SameR rv rv0 b b0
  | _ => False
def FitZ (ver : Nat) (d : D) : Box → Prop
  | .frz v xs => v = ver ∧ .sl xs = d
  | _ => False
def FitC (bx : List (Nat × Box)) (d : D) : AV → Prop
  | .c (.sc (.slice none 0 0)) => d = .sc (.slice none 0 0) ∨ d = .sl []
  | .c d' => d' = d
  | .osl id ver => FitZ ver d (lookB id bx)
  | _ => False
def FitV0 (ρ : List (Nat × Nat)) (bx bx0 : List (Nat × Box)) (v : AV) : AV → Prop
  | .top => True
  | .osl id0 ver0 => FitO (ren ρ id0) ver0 (lookB (ren ρ id0) bx) (lookB id0 bx0) v
  | .bp id0 off0 => FitP (ren ρ id0) off0 (lookB (ren ρ id0) bx) (lookB id0 bx0) v
  | .mp id0 => FitM (ren ρ id0) (lookB (ren ρ id0) bx) (lookB id0 bx0) v
  | .fsl id0 rv0 p0 => FitS (ren ρ id0) rv0 p0 (lookB (ren ρ id0) bx) (lookB id0 bx0) v
  | .c d => FitC bx d v
  | .zp T => v = .zp T
  | .ag ds => v = .ag ds
  | .ip ds => v = .ip ds
  | .fn f [] => v = .fn f []
  | _ => False
def FitL0 (ρ : List (Nat × Nat)) (bx bx0 : List (Nat × Box)) : List AV → List AV → Prop
  | [], [] => True
  | v :: r, v0 :: r0 => FitV0 ρ bx bx0 v v0 ∧ FitL0 ρ bx bx0 r r0
  | _, _ => False
def FitF (ρ : List (Nat × Nat)) (bx bx0 : List (Nat × Box)) (f : Nat) (cs0 : List AV) : AV → Prop
  | .fn f' cs => f' = f ∧ FitL0 ρ bx bx0 cs cs0
  | _ => False
def FitV (ρ : List (Nat × Nat)) (bx bx0 : List (Nat × Box)) (v : AV) : AV → Prop
  | .fn f cs0 => FitF ρ bx bx0 f cs0 v
  | v0 => FitV0 ρ bx bx0 v v0
def FitL (ρ : List (Nat × Nat)) (bx bx0 : List (Nat × Box)) : List AV → List AV → Prop
  | [], [] => True
  | v :: r, v0 :: r0 => FitV ρ bx bx0 v v0 ∧ FitL ρ bx bx0 r r0
  | _, _ => False
def FitCs (ρ : List (Nat × Nat)) (bx bx0 : List (Nat × Box)) : List AV → List AV → Prop
  | [], [] => True
  | v :: r, v0 :: r0 => (FitV ρ bx bx0 v v0 ∧ cellF v0 = true) ∧ FitCs ρ bx bx0 r r0
  | _, _ => False
def FitB (ρ : List (Nat × Nat)) (bx bx0 : List (Nat × Box)) : Box → Box → Prop
  | _, .dead => True
  | .arr e _ xs, .arr e' _ xs' => e = e' ∧ xs = xs'
  | .frz _ xs, .frz _ xs' => xs = xs'
  | .map kt et es, .map kt' et' es' => kt = kt' ∧ et = et' ∧ es = es'
  | .cells cs, .cells cs' => FitCs ρ bx bx0 cs cs'
  | .nest e _ _ none rows, .nest e' _ _ none rows' => e = e' ∧ rows = rows'
  | _, _ => False
def LeF (ρ : List (Nat × Nat)) (s : S) (bx0 : List (Nat × Box)) : List (Nat × AV) → Prop
  | [] => True
  | p :: r => FitV ρ s.bx bx0 (look p.1 s.fr) p.2 ∧ LeF ρ s bx0 r
def LeB (ρ : List (Nat × Nat)) (s : S) (bx0 : List (Nat × Box)) : List (Nat × Box) → Prop
  | [] => True
  | p :: r => FitB ρ s.bx bx0 (lookB (ren ρ p.1) s.bx) p.2 ∧ LeB ρ s bx0 r
def nodupR (ρ : List (Nat × Nat)) : List (Nat × Box) → List Nat → Bool
  | [], _ => true
  | p :: r, seen => cond (memN (ren ρ p.1) seen) false (nodupR ρ r (ren ρ p.1 :: seen))
def frz1 (id : Nat) (bx : List (Nat × Box)) : Box → List (Nat × Box)
  | .arr _ v xs => (id, .frz v xs) :: bx
  | .nest _ v _ none rows => (id, .frz v (rowsD rows)) :: bx
  | _ => bx
def frzB : List Nat → List (Nat × Box) → List (Nat × Box)
  | [], bx => bx
  | id :: r, bx => frzB r (frz1 id bx (lookB id bx))

/-- a contract of a function that is handed boxes: what they are, what comes back, what they are then -/
def extOf (bx : List (Nat × Box)) (β : Nat → Value) (k : Nat) : Prop := ∃ id, live (lookB id bx) = true ∧ Blk (β id) k
def X0 (P : Program) (E : Env) (w : World) (M : Nat → Prop) (β : Nat → Value) (bx : List (Nat × Box)) : Ctx := ⟨P, E, w, M, extOf bx β, 0, [], fun _ => undef, [], []⟩
structure Face (X : Ctx) (w : World) (β : Nat → Value) (bx : List (Nat × Box)) : Prop where
  box : ∀ id, BoxOK X w (MM X (lookB · bx) β) β (lookB · bx) id (lookB id bx)
  inj : ∀ i j k, live (lookB i bx) = true → live (lookB j bx) = true → Blk (β i) k → Blk (β j) k → i = j
def OkM (P : Program) (E : Env) (f : Nat) (args : List AV) (bx : List (Nat × Box)) (r : AV) (bx' : List (Nat × Box)) : Prop :=
  Callable P f ∧ ∀ (w : World) (M : Nat → Prop) (β : Nat → Value) (vals : Array Value), (∀ k, M k → k < w.heap.size ∧ ¬ extOf bx β k) → Face (X0 P E w M β bx) w β bx → vals.size = args.length →
    (∀ j av, args[j]? = some av → RV w (MM (X0 P E w M β bx) (lookB · bx) β) β (lookB · bx) (vals.getD j undef) av) →
    Calls P f vals w fun e w' => ∃ v β', e = .returned v ∧ Keep (X0 P E w M β bx) w' ∧ Face (X0 P E w M β bx) w' β' bx' ∧ (∀ id, Turned (lookB id bx) (β id) (lookB id bx') (β' id)) ∧
      RV w' (MM (X0 P E w M β bx) (lookB · bx') β') β' (lookB · bx') v r

/-- the boxes are handed over for good: nothing is said of them afterwards; bx' are the result's -/
def OkH (P : Program) (E : Env) (f : Nat) (args : List AV) (bx : List (Nat × Box)) (r : AV) (bx' : List (Nat × Box)) : Prop :=
  Callable P f ∧ ∀ (w : World) (M : Nat → Prop) (β : Nat → Value) (vals : Array Value), (∀ k, M k → k < w.heap.size ∧ ¬ extOf bx β k) → Face (X0 P E w M β bx) w β bx → vals.size = args.length →
    (∀ j av, args[j]? = some av → RV w (MM (X0 P E w M β bx) (lookB · bx) β) β (lookB · bx) (vals.getD j undef) av) →
    Calls P f vals w fun e w' => ∃ v β', e = .returned v ∧ Keep (X0 P E w M β bx) w' ∧ Face (X0 P E w M β bx) w' β' bx' ∧ RV w' (MM (X0 P E w M β bx) (lookB · bx') β') β' (lookB · bx') v r

/-- A CALL THAT ENDS IN A PANIC: nothing is said of the boxes afterwards -/
def OkP (P : Program) (E : Env) (f : Nat) (args : List AV) (bx : List (Nat × Box)) (ch : List PanicEntry) : Prop :=
  Callable P f ∧ ∀ (w : World) (M : Nat → Prop) (β : Nat → Value) (vals : Array Value), (∀ k, M k → k < w.heap.size ∧ ¬ extOf bx β k) → Face (X0 P E w M β bx) w β bx → vals.size = args.length →
    (∀ j av, args[j]? = some av → RV w (MM (X0 P E w M β bx) (lookB · bx) β) β (lookB · bx) (vals.getD j undef) av) →
    Calls P f vals w fun e w' => e = .panicked ch ∧ Keep (X0 P E w M β bx) w'

/-! ### iterators -/
/-- what is said of the world between two rounds abides what the iterator does to its own blocks -/
def Stable (J : Option Nat → (Nat → Prop) → World → Prop) : Prop := ∀ (g : Option Nat) (it it' : Nat → Prop) (W W' : World), J g it W → W'.os = W.os → W'.tape = W.tape → W'.output = W.output → W.heap.size ≤ W'.heap.size →
  (∀ b, b < W.heap.size → ¬ it b → W'.heap[b]? = W.heap[b]?) → (∀ b, it b → it' b) → (∀ b, it' b → it b ∨ (W.heap.size ≤ b ∧ b < W'.heap.size)) → J g it' W'
def FlatV (v : Value) (av : AV) : Prop := ∀ (w : World) (M : Nat → Prop) (β : Nat → Value) (lk : Nat → Box), RV w M β lk v av
/-- a call of yield with the next element -/
def YieldsTo (P : Program) (l : Nat) (es : List (List AV)) (w1 : World) (M : Nat → Prop) (J : Option Nat → (Nat → Prop) → World → Prop) : Prop :=
  ∀ (k : Nat) (e : List AV) (it : Nat → Prop) (W : World) (vs : Array Value), es[k]? = some e → J (some k) it W → vs.size = e.length → (∀ (j : Nat) av, e[j]? = some av → FlatV (vs.getD j undef) av) →
    YieldW P l vs W fun en W' => ((en = .returned (.bool true) ∧ J (some (k + 1)) it W') ∨ (en = .returned (.bool false) ∧ J none it W')) ∧ W.heap.size ≤ W'.heap.size ∧
      ∀ b, b < W.heap.size → (it b ∨ (b < w1.heap.size ∧ ¬ M b)) → W'.heap[b]? = W.heap[b]?
/-- AN ITERATOR: the function f with what it holds yields the elements es, in this order; the boxes are its own -/
def SeqM (P : Program) (E : Env) (f : Nat) (caps : List AV) (bx : List (Nat × Box)) (es : List (List AV)) : Prop :=
  Callable P f ∧ ∀ (w : World) (M : Nat → Prop) (β : Nat → Value) (vals : Array Value), (∀ k, M k → k < w.heap.size ∧ ¬ extOf bx β k) → Face (X0 P E w M β bx) w β bx → vals.size = caps.length →
    (∀ j av, caps[j]? = some av → RV w (MM (X0 P E w M β bx) (lookB · bx) β) β (lookB · bx) (vals.getD j undef) av) →
    ∀ (l : Nat) (J : Option Nat → (Nat → Prop) → World → Prop), Stable J → YieldsTo P l es w M J → J (some 0) (extOf bx β) w →
      Calls P f (#[.func (.yield l) #[] #[]] ++ vals) w fun e w' => (∃ v, e = .returned v) ∧ ∃ it, J (some es.length) it w' ∨ J none it w'

/-! the caller's side: the callee's names are turned into the caller's -/
def verB : Box → Nat
  | .arr _ v _ => v
  | .frz v _ => v
  | .nest _ v _ _ _ => v
  | _ => 0
mutual
def renA (σ : List (Nat × Nat)) (bc bx : List (Nat × Box)) : AV → AV
  | .osl id ver => cond (decide (verB (lookB id bx) ≤ ver)) (.osl (ren σ id) (ver - verB (lookB id bx) + verB (lookB (ren σ id) bc))) .top
  | .bp id off => .bp (ren σ id) off
  | .mp id => .mp (ren σ id)
  | .c d => .c d
  | .ag ds => .ag ds
  | .ip ds => .ip ds
  | .fn f cs => .fn f (renL σ bc bx cs)
  | .tp vs => .tp (renL σ bc bx vs)
  | _ => .top
def renL (σ : List (Nat × Nat)) (bc bx : List (Nat × Box)) : List AV → List AV
  | [] => []
  | v :: r => renA σ bc bx v :: renL σ bc bx r
end
def rvB : Box → Nat
  | .nest _ _ r _ _ => r
  | _ => 0
/-- old caller's box, callee's box before, after -/
def reB (σ : List (Nat × Nat)) (bc bx : List (Nat × Box)) (vc v0 rc r0 : Nat) : Box → Box
  | .dead => .dead
  | .cells cs => .cells (renL σ bc bx cs)
  | .arr e v xs => .arr e (v - v0 + vc) xs
  | .frz v xs => .frz (v - v0 + vc) xs
  | .map kt et es => .map kt et es
  | .nest e v r dt rows => .nest e (v - v0 + vc) (r - r0 + rc) dt rows
def reU (σ : List (Nat × Nat)) (bc bx : List (Nat × Box)) : List (Nat × Box) → Upd
  | [] => []
  | p :: r => (ren σ p.1, reB σ bc bx (verB (lookB (ren σ p.1) bc)) (verB (lookB p.1 bx)) (rvB (lookB (ren σ p.1) bc)) (rvB (lookB p.1 bx)) p.2) :: reU σ bc bx r
/-- no cell has lost its meaning -/
def boxTop : Box → Bool
  | .cells cs => cellsTop cs
  | _ => true
def updTop : Upd → Bool
  | [] => true
  | p :: r => cond (boxTop p.2) (updTop r) false
def New1 : Box → Box → Prop
  | .dead, b => b = .dead
  | _, _ => True
def NewL (σ : List (Nat × Nat)) (bc bx : List (Nat × Box)) : List (Nat × Box) → Prop
  | [] => True
  | p :: r => New1 (lookB p.1 bx) (lookB (ren σ p.1) bc) ∧ NewL σ bc bx r
def CallMVC (P : Program) (E : Env) (pb : List (Nat × Box)) (f : Nat) (raw : List AV) (W : AV → Upd → S → Prop) (s : S) : Prop :=
  (∃ (args0 : List AV) (bx0 : List (Nat × Box)) (r : AV) (bx1 : List (Nat × Box)) (φ : List Nat) (σ : List (Nat × Nat)), OkM P E f args0 bx0 r bx1 ∧
    (FitL σ (frzB φ s.bx) bx0 raw args0 ∧ LeB σ ⟨s.fr, frzB φ s.bx⟩ bx0 bx0 ∧ nodupR σ bx0 [] = true ∧ nodupR σ bx1 [] = true ∧ NewL σ (frzB φ s.bx) bx0 bx1 ∧ updTop (reU σ (frzB φ s.bx) bx0 bx1) = true) ∧
    W (renA σ (frzB φ s.bx) bx0 r) (reU σ (frzB φ s.bx) bx0 bx1) ⟨s.fr, frzB φ s.bx⟩) ∨
  (pb = [] ∧ ∃ (args0 : List AV) (bx0 : List (Nat × Box)) (r : AV) (bx1 : List (Nat × Box)) (φ : List Nat) (σ : List (Nat × Nat)), OkH P E f args0 bx0 r bx1 ∧
    (FitL σ (frzB φ s.bx) bx0 raw args0 ∧ LeB σ ⟨s.fr, frzB φ s.bx⟩ bx0 bx0 ∧ nodupR σ bx0 [] = true ∧ updTop bx1 = true) ∧ W r bx1 ⟨[], []⟩)
/-- may there be calls with boxes, and then the boxes that must stay -/
abbrev Pn := Option (List (Nat × Box))
def mutP (m : Pn) (K : List (Nat × Box) → Prop) : Prop := match m with | none => False | some pb => K pb
def CallX (P : Program) (E : Env) (m : Pn) (d : Nat) (b : Box) (f : Nat) (args : List AV) (u : Upd) (raw : List AV) (W : AV → Upd → S → Prop) (s : S) : Prop :=
  (∃ r v' u2 u3, Ok P E f args r ∧ resR d b r = some (v', u2) ∧ (u3 = cond (isSc r) [] u ∨ (ScFr r ∧ u3 = [])) ∧ W v' (u2 ++ u3) s) ∨ mutP m fun pb => CallMVC P E pb f raw W s
def stepR (P : Program) (E : Env) (m : Pn) (d : Nat) (b : Box) (W : AV → Upd → S → Prop) : R → S → Prop
  | .val v u, s => W v u s
  | .ob p r, s => p ∧ stepR P E m d b W r s
  | .br t x y, s => guardB s (stepR P E m d b W x) (stepR P E m d b W y) t
  | .call f args u raw, s => CallX P E m d b f args u raw W s
  | .callM f raw, s => mutP m fun pb => CallMVC P E pb f raw W s
  | .yld _ _ _ _, _ => False
  | .bad, _ => False
def nextP (d : Option Nat) (W : S → Prop) (v : AV) (u : Upd) (s : S) : Prop := W (putU s d v u)
def vcOps (P : Program) (E : Env) (m : Pn) (all : List Oper) (K : S → Prop) : List Oper → S → Prop
  | [], s => K s
  | o :: r, s => stepR P E m (dstN o.dst) (lookB (dstN o.dst) s.bx) (nextP o.dst (vcOps P E m all K r)) (opG E all s o) s

def keysU : Upd → List Nat
  | [] => []
  | p :: r => p.1 :: keysU r
abbrev Log := List (Nat × (List Nat × List Nat))
def logAt (i : Nat) : Log → List Nat × List Nat
  | [] => ([], [])
  | x :: r => cond (i == x.1) x.2 (logAt i r)
def disjN : List Nat → List Nat → Bool
  | [], _ => true
  | i :: r, l => cond (memN i l) false (disjN r l)
def susOK (log : Log) : List (Nat × Nat) → Bool
  | [] => true
  | p :: r => cond (disjN (logAt p.1 log).2 (logAt p.2 log).1) (cond (disjN (logAt p.2 log).2 (logAt p.1 log).1) (susOK log r) false) false
def nextL (d : Option Nat) (i : Nat) (t : List Nat) (log : Log) (W : Log → S → Prop) (v : AV) (u : Upd) (s : S) : Prop := W ((i, (t ++ keysU u, keysU u)) :: log) (putU s d v u)
def endL (sus : List (Nat × Nat)) (K : S → Prop) (log : Log) (s : S) : Prop := susOK log sus = true ∧ K s
def vcLog (P : Program) (E : Env) (all : List Oper) (K : Log → S → Prop) : Nat → List Oper → Log → S → Prop
  | _, [], log, s => K log s
  | i, o :: r, log, s => stepR P E none (dstN o.dst) (lookB (dstN o.dst) s.bx) (nextL o.dst i (dstN o.dst :: refsL ((rd o.op).map (ev s.fr))) log (vcLog P E all K (i + 1) r)) (opG E all s o) s
abbrev Sus := List (Nat × List (Nat × Nat))
def susOf (id : Nat) : Sus → List (Nat × Nat)
  | [] => []
  | p :: r => cond (id == p.1) p.2 (susOf id r)
def vcD1 (P : Program) (E : Env) (ops : List Oper) (K : S → Prop) (s : S) : List (Nat × Nat) → Prop
  | [] => vcOps P E none ops K ops s
  | p :: r => vcLog P E ops (endL (p :: r) K) 0 ops [] s
/-- a call with boxes among operations that may change their places -/
def MutL (P : Program) (E : Env) (f : Nat) (raw : List AV) (W : AV → Upd → S → Prop) (s : S) : Prop :=
  ∃ (args0 : List AV) (bx0 : List (Nat × Box)) (r : AV) (bx1 : List (Nat × Box)) (σ : List (Nat × Nat)), OkM P E f args0 bx0 r bx1 ∧
    (FitL σ s.bx bx0 raw args0 ∧ LeB σ s bx0 bx0 ∧ nodupR σ bx0 [] = true ∧ nodupR σ bx1 [] = true ∧ NewL σ s.bx bx0 bx1 ∧ updTop (reU σ s.bx bx0 bx1) = true) ∧ W (renA σ s.bx bx0 r) (reU σ s.bx bx0 bx1) s
def stepM (P : Program) (E : Env) (W : AV → Upd → S → Prop) : R → S → Prop
  | .call f _ _ raw, s => MutL P E f raw W s
  | .callM f raw, s => MutL P E f raw W s
  | _, _ => False
def vcLogM (P : Program) (E : Env) (all : List Oper) (K : Log → S → Prop) (m : Nat) : Nat → List Oper → Log → S → Prop
  | _, [], log, s => K log s
  | i, o :: r, log, s => cond (i == m)
      (stepM P E (nextL o.dst i (dstN o.dst :: refsL ((rd o.op).map (ev s.fr))) log (vcLogM P E all K m (i + 1) r)) (opG E all s o) s)
      (stepR P E none (dstN o.dst) (lookB (dstN o.dst) s.bx) (nextL o.dst i (dstN o.dst :: refsL ((rd o.op).map (ev s.fr))) log (vcLogM P E all K m (i + 1) r)) (opG E all s o) s)
/-- whatever writes is the operation m, or is tied behind it -/
def checkM (all : List Oper) (m : Nat) : Bool := (List.range all.length).all fun j => match all[j]? with
  | some o => !writy o.op || (decide (j = m) || (decide (m < j) && Nat.testBit ((masks all []).getD j 0) m))
  | none => true
/-- a pair (m, m) ahead: only the first m operations may change their places; a pair (m, m + 1000): the operation m is a call with boxes -/
def vcD (P : Program) (E : Env) (pb : List (Nat × Box)) (ops : List Oper) (K : S → Prop) (s : S) : List (Nat × Nat) → Prop
  | [] => vcOps P E none ops K ops s
  | p :: r => cond (p.1 == p.2) (vcD1 P E (ops.take p.1) (vcOps P E (some pb) ops K (ops.drop p.1)) s r) (cond (p.2 == p.1 + 1000) (vcLogM P E ops (endL r K) p.1 0 ops [] s) (vcLog P E ops (endL (p :: r) K) 0 ops [] s))
def orderX (ops : List Oper) : List (Nat × Nat) → Bool
  | [] => orderB ops []
  | p :: r => cond (p.1 == p.2) (cutB ops p.1 && orderB (ops.take p.1) r) (cond (p.2 == p.1 + 1000) (orderB ops r && checkM ops p.1) (orderB ops (p :: r)))

def thenQ (K : S → Prop) (Q : Exit → S → Prop) : Exit → S → Prop
  | .normal, s => K s
  | e, s => Q e s
def blockQ (id : Nat) (Q : Exit → S → Prop) : Exit → S → Prop
  | .exit i, s => cond (i == id) (Q .normal s) (Q (.exit i) s)
  | e, s => Q e s
def condA (a b : S → Prop) (s : S) : AV → Prop
  | .c (.sc (.bool t)) => guardB s a b t
  | _ => False

def Into (ρ : List (Nat × Nat)) (s s0 : S) : Prop := LeF ρ s s0.bx s0.fr ∧ LeB ρ s s0.bx s0.bx ∧ nodupR ρ s0.bx [] = true
/-- a nil slice that is owned; from 100000 on: of elements that are own slices -/
def isSlT : Option TI → Bool
  | some te => isSlK te.kind && te.size == 1
  | none => false
def ownK (E : Env) (e : Nat) : Bool := cond (decide (100000 ≤ e)) (isSlT (E (e - 100000))) (E e).isSome
def ownBx (e : Nat) : Box := cond (decide (100000 ≤ e)) (.nest (e - 100000) 0 0 none []) (.arr e 0 [])
/-- slot, name, element type -/
def OwnsOK (E : Env) : List (Nat × (Nat × Nat)) → S → Prop
  | [], _ => True
  | g :: r, s => look g.1 s.fr = .c (.sc (.slice none 0 0)) ∧ lookB g.2.1 s.bx = .dead ∧ ownK E g.2.2 = true ∧ OwnsOK E r ⟨(g.1, .osl g.2.1 0) :: s.fr, (g.2.1, ownBx g.2.2) :: s.bx⟩
def ownS : List (Nat × (Nat × Nat)) → S → S
  | [], s => s
  | g :: r, s => ownS r ⟨(g.1, .osl g.2.1 0) :: s.fr, (g.2.1, ownBx g.2.2) :: s.bx⟩
def PinV (id idr : Nat) : Box → Box → Box → Prop
  | .dead, _, _ => True
  | .cells _, _, .cells _ => idr = id
  | .map _ _ _, _, .map _ _ _ => idr = id
  | .arr _ n _, .arr _ v _, .arr _ v' _ => (idr = id ∧ v' = v) ∨ n < v'
  | .arr _ n _, .frz v _, .frz v' _ => (idr = id ∧ v' = v) ∨ n < v'
  | .frz _ _, .frz v _, .frz v' _ => idr = id ∧ v' = v
  | _, _, _ => False
def PinL (ρ : List (Nat × Nat)) (bx bx0 : List (Nat × Box)) : List (Nat × Box) → Prop
  | [] => True
  | p :: r => PinV p.1 (ren ρ p.1) p.2 (lookB (ren ρ p.1) bx) (lookB p.1 bx0) ∧ PinL ρ bx bx0 r
def frzS (φ : List Nat) (s : S) : S := ⟨s.fr, frzB φ s.bx⟩
def Enter (E : Env) (pb : List (Nat × Box)) (s s0 : S) : Prop := ∃ gs φ ρ, OwnsOK E gs s ∧ Into ρ (frzS φ (ownS gs s)) s0 ∧ PinL ρ (frzS φ (ownS gs s)).bx s0.bx pb
theorem Enter.mk {E : Env} {pb : List (Nat × Box)} {s s0 : S} (gs : List (Nat × (Nat × Nat))) (φ : List Nat) (ρ : List (Nat × Nat)) (h : OwnsOK E gs s ∧ Into ρ (frzS φ (ownS gs s)) s0 ∧ PinL ρ (frzS φ (ownS gs s)).bx s0.bx pb) : Enter E pb s s0 := ⟨gs, φ, ρ, h⟩
theorem Enter.id {E : Env} {s s0 : S} (h : Into [] s s0) : Enter E [] s s0 := ⟨[], [], [], trivial, h, trivial⟩

def Back (E : Env) (pb : List (Nat × Box)) {Y : Type} (inv : Y → Prop) (st : Y → S) (μ : Y → Nat) (y : Y) (s2 : S) : Prop := ∃ y', Enter E pb s2 (st y') ∧ inv y' ∧ μ y' < μ y
def LoopVC (E : Env) (pb : List (Nat × Box)) (W : (Exit → S → Prop) → S → Prop) (Q : Exit → S → Prop) (s : S) : Prop :=
  ∃ (Y : Type) (inv : Y → Prop) (st : Y → S) (μ : Y → Nat) (Q2 : Exit → S → Prop), (∃ y, Enter E pb s (st y) ∧ inv y) ∧ (∀ e s, Q2 e s → Q e s ∨ ∃ s', Enter E pb s s' ∧ Q e s') ∧ ∀ y, inv y → W (thenQ (Back E pb inv st μ y) Q2) (st y)
theorem LoopVC.mk {E : Env} {pb : List (Nat × Box)} {Y : Type} {W : (Exit → S → Prop) → S → Prop} {Q : Exit → S → Prop} {s : S} (inv : Y → Prop) (st : Y → S) (μ : Y → Nat)
    (h0 : ∃ y, Enter E pb s (st y) ∧ inv y) (h : ∀ y, inv y → W (thenQ (Back E pb inv st μ y) Q) (st y)) : LoopVC E pb W Q s := ⟨Y, inv, st, μ, Q, h0, fun _ _ h => .inl h, h⟩
/-- a loop whose way out is cut: at the exit i the state is one of 'stz' -/
def Out (E : Env) (pb : List (Nat × Box)) {Z : Type} (invz : Z → Prop) (stz : Z → S) (s : S) : Prop := ∃ z, Enter E pb s (stz z) ∧ invz z
def cutQ (i : Nat) (K : S → Prop) (Q : Exit → S → Prop) : Exit → S → Prop
  | .exit j, s => cond (i == j) (K s) (Q (.exit j) s)
  | e, s => Q e s
theorem LoopVC.cut {E : Env} {pb : List (Nat × Box)} {Y Z : Type} {W : (Exit → S → Prop) → S → Prop} {Q : Exit → S → Prop} {s : S} (i : Nat) (inv : Y → Prop) (st : Y → S) (μ : Y → Nat) (invz : Z → Prop) (stz : Z → S)
    (h0 : ∃ y, Enter E pb s (st y) ∧ inv y) (h : ∀ y, inv y → W (thenQ (Back E pb inv st μ y) (cutQ i (Out E pb invz stz) Q)) (st y)) (hz : ∀ z, invz z → Q (.exit i) (stz z)) : LoopVC E pb W Q s := by
  refine ⟨Y, inv, st, μ, _, h0, fun e s hq => ?_, h⟩
  cases e with
  | exit j =>
    simp only [cutQ] at hq
    cases hj : (i == j) with
    | true =>
      rw [hj] at hq
      obtain ⟨z, he, hi⟩ := hq
      rw [show j = i from (by simpa using hj : i = j).symm]
      exact .inr ⟨_, he, hz z hi⟩
    | false =>
      rw [hj] at hq
      exact .inl hq
  | normal => exact .inl hq
  | goto l => exact .inl hq
  | ret => exact .inl hq
  | panic ch => exact .inl hq
  | outgrown => exact .inl hq

/-! a loop over a function -/
def pushP : List Nat → List AV → List (Nat × AV) → List (Nat × AV)
  | p :: ps, v :: vs, fr => pushP ps vs ((p, v) :: fr)
  | _, _, fr => fr
def RoundQ (fr : List (Nat × AV)) (back : S → Prop) (Q : Exit → S → Prop) : Exit → S → Prop
  | .normal, s => back ⟨fr, s.bx⟩
  | .ret, s => Q .ret ⟨fr, s.bx⟩
  | .exit i, s => Q (.exit i) ⟨fr, s.bx⟩
  | _, _ => False
def keysR (ρ : List (Nat × Nat)) : List (Nat × Box) → List Nat
  | [] => []
  | p :: r => ren ρ p.1 :: keysR ρ r
def ItOf (P : Program) (E : Env) (s : S) (es : List (List AV)) (hs : List Nat) : AV → Prop
  | .fn f caps => ∃ (caps0 : List AV) (bx0 : List (Nat × Box)) (σ : List (Nat × Nat)), SeqM P E f caps0 bx0 es ∧ FitL σ s.bx bx0 caps caps0 ∧ LeB σ s bx0 bx0 ∧ nodupR σ bx0 [] = true ∧ keysR σ bx0 = hs
  | _ => False
def NextR (E : Env) (pb : List (Nat × Box)) {Y : Type} (inv : Nat → Y → Prop) (st : Y → S) (k : Nat) (s : S) : Prop := ∃ y', Enter E pb s (st y') ∧ inv (k + 1) y'
/-- the variables of a round are set: that comes to its end -/
def onlyN (K : S → Prop) : Exit → S → Prop
  | .normal, s => K s
  | _, _ => False
def RangeVC (P : Program) (E : Env) (pb : List (Nat × Box)) (ps : List Nat) (A : List (Nat × Box) → (S → Prop) → S → Prop) (W : List (Nat × Box) → (Exit → S → Prop) → S → Prop) (Q : Exit → S → Prop) (g : Operand) (s : S) : Prop :=
  ∃ (gs : List (Nat × (Nat × Nat))) (φ : List Nat) (ρ : List (Nat × Nat)) (hs : List Nat) (es : List (List AV)) (Y : Type) (inv : Nat → Y → Prop) (st : Y → S) (Q2 : Exit → S → Prop), OwnsOK E gs s ∧ ItOf P E (frzS φ (ownS gs s)) es hs (ev (ownS gs s).fr g) ∧ (∀ e ∈ es, e.length = ps.length) ∧
    (∃ y, (Into ρ (frzS φ (ownS gs s)) (st y) ∧ PinL ρ (frzS φ (ownS gs s)).bx (st y).bx pb ∧ disjN (keysR ρ (st y).bx) hs = true) ∧ inv 0 y) ∧
    (∀ e s, Q2 e s → Q e s ∨ ∃ s', Enter E pb s s' ∧ Q e s') ∧
    (∀ (k : Nat) e y, es[k]? = some e → inv k y → A (st y).bx (W (st y).bx (RoundQ (st y).fr (NextR E pb inv st k) Q2)) ⟨pushP ps e (st y).fr, (st y).bx⟩) ∧
    ∀ y, inv es.length y → Q .normal (st y) ∨ ∃ s', Enter E pb (st y) s' ∧ Q .normal s'

/-! ### panics -/
/-- plain cells: what is kept beyond a call that panics -/
def plnC : AV → Bool
  | .c (.sc _) => true
  | _ => false
def plnB : Box → Bool
  | .cells cs => cs.all plnC
  | _ => false
def plnL : Box → Bool
  | .cells _ => true
  | _ => false
def KeptP (hs : List Nat) (bx : List (Nat × Box)) : List (Nat × Box) → Prop
  | [] => True
  | p :: r => (lookB p.1 bx = p.2 ∧ plnB p.2 = true ∧ memN p.1 hs = false) ∧ KeptP hs bx r
/-- slots that point to boxes that are kept -/
def bpK (kb : List (Nat × Box)) : AV → Bool
  | .bp id _ => plnL (lookB id kb)
  | _ => false
def KeptF (fr : List (Nat × AV)) (kb : List (Nat × Box)) : List (Nat × AV) → Prop
  | [] => True
  | p :: r => (look p.1 fr = p.2 ∧ bpK kb p.2 = true) ∧ KeptF fr kb r
/-- what is pinned is kept -/
def PinK (kb : List (Nat × Box)) : List (Nat × Box) → Prop
  | [] => True
  | p :: r => plnL (lookB p.1 kb) = true ∧ PinK kb r
def PanCall (P : Program) (E : Env) (pb : List (Nat × Box)) (f : Nat) (raw : List AV) (K : List PanicEntry → S → Prop) (s : S) : Prop :=
  ∃ (args0 : List AV) (bx0 : List (Nat × Box)) (ch : List PanicEntry) (φ : List Nat) (σ : List (Nat × Nat)) (kf : List (Nat × AV)) (kb : List (Nat × Box)), OkP P E f args0 bx0 ch ∧
    (FitL σ (frzB φ s.bx) bx0 raw args0 ∧ LeB σ ⟨s.fr, frzB φ s.bx⟩ bx0 bx0 ∧ nodupR σ bx0 [] = true ∧ KeptP (keysR σ bx0) (frzB φ s.bx) kb ∧ KeptF s.fr kb kf ∧ PinK kb pb) ∧ K ch ⟨kf, kb⟩
def panK (K : List PanicEntry → S → Prop) (s : S) : AV → Prop
  | .c (.sc (.iface t v)) => K [{ v := .iface t v, recovered := false }] s
  | _ => False
def panO (P : Program) (E : Env) (pb : List (Nat × Box)) (K : List PanicEntry → S → Prop) (s : S) : Op → Prop
  | .panic x => panK K s (ev s.fr x)
  | .call ⟨f, args, _⟩ => match f with
    | .value (.func g) => PanCall P E pb g (args.toList.map (ev s.fr)) K s
    | _ => False
  | _ => False
def noGuard (o : Oper) : Prop := o.guard = none
/-- a value of a type without cells is made, put into an interface, and the region ends with it as a panic -/
def panW (P : Program) (t i j : Nat) : List Oper → Bool
  | [o1, o2, o3] => match o1.op, o2.op, o3.op with
    | .build t1 ps, .makeInterface t2 (.tmp i1), .panic (.tmp j1) => decide (i1 = i) && decide (j1 = j) && decide (t1 = t) && (decide (t2 = t) && (decide (ps.size = 0) && (decide (o1.dst = some i) && (decide (o2.dst = some j) && (o1.guard.isNone && (o2.guard.isNone && (o3.guard.isNone && ((P.built t []).any (fun cs => decide (cs.size = 0)) && P.concrete t))))))))
    | _, _, _ => false
  | _ => false
/-- from here on the region may end in a panic -/
def PanVC (P : Program) (E : Env) (pb : List (Nat × Box)) (all : List Oper) (Q : Exit → S → Prop) : List Oper → S → Prop
  | [], s => Q .normal s
  | o :: r, s => (o.guard = none ∧ panO P E pb (fun ch => Q (.panic ch)) s o.op) ∨ (∃ t i j, panW P t i j (o :: r) = true ∧ Q (.panic [{ v := .iface t (.agg #[]), recovered := false }]) ⟨(j, .top) :: (i, .top) :: s.fr, s.bx⟩) ∨ vcOps P E (some pb) all (Q .normal) (o :: r) s
/-- a region that L names (though it draws no order): the operation from which on it may end in a panic -/
def vcP (P : Program) (E : Env) (pb : List (Nat × Box)) (ops : List Oper) (Q : Exit → S → Prop) (s : S) : List (Nat × Nat) → Prop
  | [] => vcOps P E (some pb) ops (Q .normal) ops s
  | p :: _ => vcOps P E (some pb) ops (PanVC P E pb ops Q (ops.drop p.1)) (ops.take p.1) s
theorem PanVC.go {P : Program} {E : Env} {pb : List (Nat × Box)} {all : List Oper} {Q : Exit → S → Prop} {o : Oper} {r : List Oper} {s : S} (h : vcOps P E (some pb) all (Q .normal) (o :: r) s) : PanVC P E pb all Q (o :: r) s := .inr (.inr h)
theorem PanVC.pan {P : Program} {E : Env} {pb : List (Nat × Box)} {all : List Oper} {Q : Exit → S → Prop} {o : Oper} {r : List Oper} {s : S} (hg : o.guard = none) (h : panO P E pb (fun ch => Q (.panic ch)) s o.op) : PanVC P E pb all Q (o :: r) s := .inl ⟨hg, h⟩
theorem PanVC.wrong {P : Program} {E : Env} {pb : List (Nat × Box)} {all : List Oper} {Q : Exit → S → Prop} {o : Oper} {r : List Oper} {s : S} (t i j : Nat) (h : panW P t i j (o :: r) = true) (hq : Q (.panic [{ v := .iface t (.agg #[]), recovered := false }]) ⟨(j, .top) :: (i, .top) :: s.fr, s.bx⟩) : PanVC P E pb all Q (o :: r) s := .inr (.inl ⟨t, i, j, h, hq⟩)
theorem PanCall.mk {P : Program} {E : Env} {pb : List (Nat × Box)} {f : Nat} {raw : List AV} {K : List PanicEntry → S → Prop} {s : S} {args0 : List AV} {bx0 : List (Nat × Box)} {ch : List PanicEntry} (φ : List Nat) (σ : List (Nat × Nat)) (kf : List (Nat × AV)) (kb : List (Nat × Box)) (h : OkP P E f args0 bx0 ch)
    (h1 : FitL σ (frzB φ s.bx) bx0 raw args0 ∧ LeB σ ⟨s.fr, frzB φ s.bx⟩ bx0 bx0 ∧ nodupR σ bx0 [] = true ∧ KeptP (keysR σ bx0) (frzB φ s.bx) kb ∧ KeptF s.fr kb kf ∧ PinK kb pb) (h2 : K ch ⟨kf, kb⟩) : PanCall P E pb f raw K s := ⟨args0, bx0, ch, φ, σ, kf, kb, h, h1, h2⟩

def vc (P : Program) (E : Env) (L : Sus) : List (Nat × Box) → Code → (Exit → S → Prop) → S → Prop
  | _, .skip, Q, s => Q .normal s
  | pb, .region id ops dr, Q, s => cond dr (vcD P E pb ops.toList (Q .normal) s (susOf id L)) (vcP P E pb ops.toList Q s (susOf id L))
  | pb, .seq a b, Q, s => vc P E L pb a (thenQ (vc P E L pb b Q) Q) s
  | pb, .cond c a b, Q, s => condA (vc P E L pb a Q) (vc P E L pb b Q) s (ev s.fr c)
  | pb, .block id c, Q, s => vc P E L pb c (blockQ id Q) s
  | pb, .loop c, Q, s => LoopVC E pb (vc P E L pb c) Q s
  | pb, .rangeFunc g ps as c, Q, s => RangeVC P E pb ps.toList (fun pb' K => vc P E L pb' as (onlyN K)) (fun pb' => vc P E L pb' c) Q g s
  | _, .exit i, Q, s => Q (.exit i) s
  | _, .ret, Q, s => Q .ret s
  | _, _, _, _ => False

theorem guardB.mk {s : S} {a b : S → Prop} {t : Bool} (h : t = true → a s) (h' : t = false → b s) : guardB s a b t := by
  cases t
  · exact h' rfl
  · exact h rfl
theorem CallX.mk {P : Program} {E : Env} {m : Pn} {d : Nat} {b : Box} {f : Nat} {args : List AV} {u : Upd} {raw : List AV} {W : AV → Upd → S → Prop} {s : S} {r v' : AV} {u2 : Upd} (h : Ok P E f args r) (h1 : resR d b r = some (v', u2)) (h2 : W v' (u2 ++ cond (isSc r) [] u) s) :
    CallX P E m d b f args u raw W s := .inl ⟨r, v', u2, _, h, h1, .inl rfl, h2⟩
/-- a result whose memory is its own and holds no reference: what was handed over stays the caller's -/
theorem CallX.mkF {P : Program} {E : Env} {m : Pn} {d : Nat} {b : Box} {f : Nat} {args : List AV} {u : Upd} {raw : List AV} {W : AV → Upd → S → Prop} {s : S} {r v' : AV} {u2 : Upd} (h : Ok P E f args r) (h1 : resR d b r = some (v', u2)) (hs : ScFr r) (h2 : W v' u2 s) :
    CallX P E m d b f args u raw W s := .inl ⟨r, v', u2, [], h, h1, .inr ⟨hs, rfl⟩, by rw [List.append_nil]; exact h2⟩
theorem MutL.mk {P : Program} {E : Env} {f : Nat} {raw : List AV} {W : AV → Upd → S → Prop} {s : S} {args0 : List AV} {bx0 : List (Nat × Box)} {r : AV} {bx1 : List (Nat × Box)} (σ : List (Nat × Nat)) (h : OkM P E f args0 bx0 r bx1)
    (h1 : FitL σ s.bx bx0 raw args0 ∧ LeB σ s bx0 bx0 ∧ nodupR σ bx0 [] = true ∧ nodupR σ bx1 [] = true ∧ NewL σ s.bx bx0 bx1 ∧ updTop (reU σ s.bx bx0 bx1) = true) (h2 : W (renA σ s.bx bx0 r) (reU σ s.bx bx0 bx1) s) : MutL P E f raw W s := ⟨args0, bx0, r, bx1, σ, h, h1, h2⟩
theorem CallMVC.mk {P : Program} {E : Env} {pb : List (Nat × Box)} {f : Nat} {raw : List AV} {W : AV → Upd → S → Prop} {s : S} {args0 : List AV} {bx0 : List (Nat × Box)} {r : AV} {bx1 : List (Nat × Box)} (φ : List Nat) (σ : List (Nat × Nat)) (h : OkM P E f args0 bx0 r bx1)
    (h1 : FitL σ (frzB φ s.bx) bx0 raw args0 ∧ LeB σ ⟨s.fr, frzB φ s.bx⟩ bx0 bx0 ∧ nodupR σ bx0 [] = true ∧ nodupR σ bx1 [] = true ∧ NewL σ (frzB φ s.bx) bx0 bx1 ∧ updTop (reU σ (frzB φ s.bx) bx0 bx1) = true)
    (h2 : W (renA σ (frzB φ s.bx) bx0 r) (reU σ (frzB φ s.bx) bx0 bx1) ⟨s.fr, frzB φ s.bx⟩) : CallMVC P E pb f raw W s := .inl ⟨args0, bx0, r, bx1, φ, σ, h, h1, h2⟩
theorem CallMVC.hand {P : Program} {E : Env} {f : Nat} {raw : List AV} {W : AV → Upd → S → Prop} {s : S} {args0 : List AV} {bx0 : List (Nat × Box)} {r : AV} {bx1 : List (Nat × Box)} (φ : List Nat) (σ : List (Nat × Nat)) (h : OkH P E f args0 bx0 r bx1)
    (h1 : FitL σ (frzB φ s.bx) bx0 raw args0 ∧ LeB σ ⟨s.fr, frzB φ s.bx⟩ bx0 bx0 ∧ nodupR σ bx0 [] = true ∧ updTop bx1 = true) (h2 : W r bx1 ⟨[], []⟩) : CallMVC P E [] f raw W s := .inr ⟨rfl, args0, bx0, r, bx1, φ, σ, h, h1, h2⟩
theorem CallX.mut {P : Program} {E : Env} {pb : List (Nat × Box)} {d : Nat} {b : Box} {f : Nat} {args : List AV} {u : Upd} {raw : List AV} {W : AV → Upd → S → Prop} {s : S} (h : CallMVC P E pb f raw W s) : CallX P E (some pb) d b f args u raw W s := .inr h

/-! what is handed back -/
def RetC : Option (D × Upd) → D → Prop
  | some p, d => p.1 = d
  | none, _ => False
def RetB (e ver : Nat) (xs : List (List D)) : Box → Prop
  | .arr e' v' xs' => e' = e ∧ v' = ver ∧ xs' = xs
  | _ => False
def RetF (E : Env) (e : Nat) (xs : List (List D)) (bx : List (Nat × Box)) : AV → Prop
  | .osl id ver => RetB e ver xs (lookB id bx)
  | .c (.sc (.slice none 0 0)) => xs = [] ∧ (E e).isSome = true
  | _ => False
/-- nil, by value -/
def nilD : D → D
  | .sc (.slice none 0 0) => .sl []
  | d => d
def retA (bx : List (Nat × Box)) : AV → Option (List D × Upd)
  | .ag ds => some (ds.map nilD, [])
  | .agv vs => toDL bx vs
  | _ => none
def RetA : Option (List D × Upd) → List D → Prop
  | some p, ds => p.1 = ds
  | none, _ => False
def Ret1 (E : Env) (bx : List (Nat × Box)) (v : AV) : AV → Prop
  | .c d => RetC (toD bx v) d
  | .ag ds => RetA (retA bx v) ds
  | .fr e xs => RetF E e xs bx v
  | _ => False
def frIds : List AV → List AV → List Nat
  | .osl id _ :: vs, .fr _ _ :: rs => id :: frIds vs rs
  | _ :: vs, _ :: rs => frIds vs rs
  | _, _ => []
def toDK : Option (D × Upd) → List Nat
  | some p => keysU p.2
  | none => []
def toDKs : Option (List D × Upd) → List Nat
  | some p => keysU p.2
  | none => []
def frzIds (bx : List (Nat × Box)) : List AV → List AV → List Nat
  | v :: vs, .c _ :: rs => toDK (toD bx v) ++ frzIds bx vs rs
  | v :: vs, .ag _ :: rs => toDKs (retA bx v) ++ frzIds bx vs rs
  | _ :: vs, _ :: rs => frzIds bx vs rs
  | _, _ => []
def RetL (E : Env) (bx : List (Nat × Box)) : List AV → List AV → Prop
  | [], [] => True
  | v :: vs, r :: rs => Ret1 E bx v r ∧ RetL E bx vs rs
  | _, _ => False
def RetT (E : Env) (bx : List (Nat × Box)) (vs : List AV) : AV → Prop
  | .tp rs => RetL E bx vs rs ∧ disjN (frIds vs rs) (frzIds bx vs rs) = true
  | _ => False
def RetVC (E : Env) (r : AV) (bx : List (Nat × Box)) : List AV → Prop
  | [v] => Ret1 E bx v r
  | vs => RetT E bx vs r
def retQ (E : Env) (ts : List Nat) (r : AV) : Exit → S → Prop
  | .normal, s => RetVC E r s.bx (ts.map (look · s.fr))
  | .ret, s => RetVC E r s.bx (ts.map (look · s.fr))
  | _, _ => False
def zipR : List Nat → List AV → List (Nat × AV)
  | t :: ts, r :: rs => (t, r) :: zipR ts rs
  | _, _ => []
def retFr : List Nat → AV → Option (List (Nat × AV))
  | [t], r => some [(t, r)]
  | ts, .tp rs => cond (ts.length == rs.length) (some (zipR ts rs)) none
  | _, _ => none
def RetM (E : Env) (pb bx1 : List (Nat × Box)) (s : S) : Option (List (Nat × AV)) → Prop
  | some fr => Enter E pb s ⟨fr, bx1⟩
  | none => False
def retM (E : Env) (pb : List (Nat × Box)) (ts : List Nat) (r : AV) (bx1 : List (Nat × Box)) : Exit → S → Prop
  | .normal, s => RetM E pb bx1 s (retFr ts r)
  | .ret, s => RetM E pb bx1 s (retFr ts r)
  | _, _ => False
def frOf : Nat → List AV → List (Nat × AV)
  | _, [] => []
  | i, v :: r => (i, v) :: frOf (i + 1) r
def argsS (args : List AV) : S := ⟨frOf 0 args, []⟩

theorem ItOf.mk {P : Program} {E : Env} {s : S} {f : Nat} {caps caps0 : List AV} {bx0 : List (Nat × Box)} {es : List (List AV)} (σ : List (Nat × Nat)) (h : SeqM P E f caps0 bx0 es)
    (h1 : FitL σ s.bx bx0 caps caps0 ∧ LeB σ s bx0 bx0 ∧ nodupR σ bx0 [] = true) : ItOf P E s es (keysR σ bx0) (.fn f caps) := ⟨caps0, bx0, σ, h, h1.1, h1.2.1, h1.2.2, rfl⟩
theorem RangeVC.mk {P : Program} {E : Env} {pb : List (Nat × Box)} {ps : List Nat} {A : List (Nat × Box) → (S → Prop) → S → Prop} {W : List (Nat × Box) → (Exit → S → Prop) → S → Prop} {Q : Exit → S → Prop} {g : Operand} {s : S} {f : Nat} {caps caps0 : List AV} {bx0 : List (Nat × Box)} {es : List (List AV)} {Y : Type}
    (σ φ : _) (ρ : List (Nat × Nat)) (h : SeqM P E f caps0 bx0 es) (inv : Nat → Y → Prop) (st : Y → S) (hg : ev s.fr g = .fn f caps)
    (h1 : FitL σ (frzB φ s.bx) bx0 caps caps0 ∧ LeB σ ⟨s.fr, frzB φ s.bx⟩ bx0 bx0 ∧ nodupR σ bx0 [] = true) (hl : ∀ e ∈ es, e.length = ps.length)
    (h0 : ∃ y, (Into ρ ⟨s.fr, frzB φ s.bx⟩ (st y) ∧ PinL ρ (frzB φ s.bx) (st y).bx pb ∧ disjN (keysR ρ (st y).bx) (keysR σ bx0) = true) ∧ inv 0 y)
    (hr : ∀ (k : Nat) e y, es[k]? = some e → inv k y → A (st y).bx (W (st y).bx (RoundQ (st y).fr (NextR E pb inv st k) Q)) ⟨pushP ps e (st y).fr, (st y).bx⟩) (hd : ∀ y, inv es.length y → Q .normal (st y)) : RangeVC P E pb ps A W Q g s :=
  ⟨[], φ, ρ, _, es, Y, inv, st, Q, trivial, by rw [show ev (ownS [] s).fr g = .fn f caps from hg]; exact ItOf.mk (s := ⟨s.fr, frzB φ s.bx⟩) σ h h1, hl, h0, fun _ _ h => .inl h, hr, fun y hy => .inl (hd y hy)⟩
/-- the ways out are cut: at the exit i, and where all has come, the state is one of 'stz' -/
theorem RangeVC.cut {P : Program} {E : Env} {pb : List (Nat × Box)} {ps : List Nat} {A : List (Nat × Box) → (S → Prop) → S → Prop} {W : List (Nat × Box) → (Exit → S → Prop) → S → Prop} {Q : Exit → S → Prop} {g : Operand} {s : S} {f : Nat} {caps caps0 : List AV} {bx0 : List (Nat × Box)} {es : List (List AV)} {Y Z : Type}
    (i : Nat) (σ φ : _) (ρ : List (Nat × Nat)) (h : SeqM P E f caps0 bx0 es) (inv : Nat → Y → Prop) (st : Y → S) (invz : Z → Prop) (stz : Z → S) (hg : ev s.fr g = .fn f caps)
    (h1 : FitL σ (frzB φ s.bx) bx0 caps caps0 ∧ LeB σ ⟨s.fr, frzB φ s.bx⟩ bx0 bx0 ∧ nodupR σ bx0 [] = true) (hl : ∀ e ∈ es, e.length = ps.length)
    (h0 : ∃ y, (Into ρ ⟨s.fr, frzB φ s.bx⟩ (st y) ∧ PinL ρ (frzB φ s.bx) (st y).bx pb ∧ disjN (keysR ρ (st y).bx) (keysR σ bx0) = true) ∧ inv 0 y)
    (hr : ∀ (k : Nat) e y, es[k]? = some e → inv k y → A (st y).bx (W (st y).bx (RoundQ (st y).fr (NextR E pb inv st k) (cutQ i (Out E pb invz stz) Q))) ⟨pushP ps e (st y).fr, (st y).bx⟩) (hd : ∀ y, inv es.length y → Out E pb invz stz (st y))
    (hz : ∀ z, invz z → Q (.exit i) (stz z) ∧ Q .normal (stz z)) : RangeVC P E pb ps A W Q g s := by
  refine ⟨[], φ, ρ, _, es, Y, inv, st, _, trivial, by rw [show ev (ownS [] s).fr g = .fn f caps from hg]; exact ItOf.mk (s := ⟨s.fr, frzB φ s.bx⟩) σ h h1, hl, h0, fun e s hq => ?_, hr, fun y hy => ?_⟩
  · cases e with
    | exit j =>
      simp only [cutQ] at hq
      cases hj : (i == j) with
      | true =>
        rw [hj] at hq
        obtain ⟨z, he, hi⟩ := hq
        rw [show j = i from (by simpa using hj : i = j).symm]
        exact .inr ⟨_, he, (hz z hi).1⟩
      | false =>
        rw [hj] at hq
        exact .inl hq
    | normal => exact .inl hq
    | goto l => exact .inl hq
    | ret => exact .inl hq
    | panic ch => exact .inl hq
    | outgrown => exact .inl hq
  · obtain ⟨z, he, hi⟩ := hd y hy
    exact .inr ⟨_, he, (hz z hi).2⟩

/-! ### a region's conditions give a path -/
theorem stepR_gets {P : Program} {E : Env} {d : Nat} {b : Box} {W : AV → Upd → S → Prop} : ∀ {r : R} {s : S}, stepR P E none d b W r s → ∃ v u, Gets P E d b r v u ∧ W v u s
  | .val v u, s, h => ⟨v, u, ⟨rfl, rfl⟩, h⟩
  | .ob p r, s, h => by
    obtain ⟨v, u, hg, hw⟩ := stepR_gets (r := r) h.2
    exact ⟨v, u, ⟨h.1, hg⟩, hw⟩
  | .br t x y, s, h => by
    cases t
    · obtain ⟨v, u, hg, hw⟩ := stepR_gets (r := y) h
      exact ⟨v, u, .inr ⟨rfl, hg⟩, hw⟩
    · obtain ⟨v, u, hg, hw⟩ := stepR_gets (r := x) h
      exact ⟨v, u, .inl ⟨rfl, hg⟩, hw⟩
  | .call f args u raw, s, h => by
    rcases h with ⟨r, v', u2, u3, h1, h2, h4, h3⟩ | h
    · exact ⟨v', _, ⟨r, u2, u3, h1, h2, h4, rfl⟩, h3⟩
    · exact h.elim
  | .callM f raw, s, h => h.elim
  | .yld _ _ _ _, _, h => h.elim
  | .bad, _, h => h.elim

theorem vcOps_path {P : Program} {E : Env} {all : List Oper} {K : S → Prop} : ∀ {l : List Oper} {s : S}, vcOps P E none all K l s → ∃ outs s', Path P E all l s outs s' ∧ K s'
  | [], s, h => ⟨[], s, .nil s, h⟩
  | o :: r, s, h => by
    obtain ⟨v, u, hg, hw⟩ := stepR_gets h
    obtain ⟨outs, s', hp, hk⟩ := vcOps_path (l := r) hw
    exact ⟨(v, u) :: outs, s', .cons o r s v u outs s' hg hp, hk⟩

def logOf : Nat → List Oper → Outs → S → Log → Log
  | i, o :: r, x :: outs, s, log => logOf (i + 1) r outs (putU s o.dst x.1 x.2) ((i, ((dstN o.dst :: refsL ((rd o.op).map (ev s.fr))) ++ keysU x.2, keysU x.2)) :: log)
  | _, _, _, _, log => log

theorem vcLog_path {P : Program} {E : Env} {all : List Oper} {K : Log → S → Prop} : ∀ {l : List Oper} {i : Nat} {log : Log} {s : S}, vcLog P E all K i l log s → ∃ outs s', Path P E all l s outs s' ∧ K (logOf i l outs s log) s'
  | [], i, log, s, h => ⟨[], s, .nil s, h⟩
  | o :: r, i, log, s, h => by
    obtain ⟨v, u, hg, hw⟩ := stepR_gets h
    obtain ⟨outs, s', hp, hk⟩ := vcLog_path (l := r) hw
    exact ⟨(v, u) :: outs, s', .cons o r s v u outs s' hg hp, hk⟩

theorem logAt_old : ∀ (l : List Oper) (outs : Outs) (i : Nat) (s : S) (log : Log) (j : Nat), j < i → logAt j (logOf i l outs s log) = logAt j log
  | [], _, _, _, _, _, _ => by unfold logOf; rfl
  | o :: r, [], _, _, _, _, _ => by unfold logOf; rfl
  | o :: r, x :: outs, i, s, log, j, hj => by
    rw [logOf, logAt_old r outs (i + 1) _ _ j (by omega)]
    simp only [logAt]
    rw [show (j == i) = false from by simp; omega, cond_false]

theorem keysU_map : ∀ u : Upd, keysU u = u.map (·.1)
  | [] => rfl
  | p :: r => by rw [keysU, keysU_map r]; rfl

theorem logAt_new : ∀ (l : List Oper) (outs : Outs) (i : Nat) (s : S) (log : Log) (j : Nat) (o : Oper) (x : AV × Upd), l[j]? = some o → outs[j]? = some x →
    logAt (i + j) (logOf i l outs s log) = (touched (appL (fun k => decide (k < i + j)) i l outs s) o x.2, x.2.map (·.1))
  | [], _, _, _, _, _, _, _, h, _ => by simp at h
  | _ :: _, [], _, _, _, _, _, _, _, h => by simp at h
  | o0 :: r, x0 :: outs, i, s, log, 0, o, x, h1, h2 => by
    simp only [List.getElem?_cons_zero, Option.some.injEq] at h1 h2
    subst h1; subst h2
    rw [logOf, logAt_old r outs (i + 1) _ _ _ (by omega), appL_none _ _ _ _ fun j hj => by simp; omega]
    simp only [logAt, Nat.add_zero, BEq.rfl, cond_true, keysU_map, touched, List.cons_append]
  | o0 :: r, x0 :: outs, i, s, log, j + 1, o, x, h1, h2 => by
    simp only [List.getElem?_cons_succ] at h1 h2
    have := logAt_new r outs (i + 1) (putU s o0.dst x0.1 x0.2) ((i, ((dstN o0.dst :: refsL ((rd o0.op).map (ev s.fr))) ++ keysU x0.2, keysU x0.2)) :: log) j o x h1 h2
    rw [logOf, show i + (j + 1) = i + 1 + j by omega, this, appL, show decide (i < i + 1 + j) = true from by simp; omega, cond_true]

theorem memN_iff : ∀ {l : List Nat} {i : Nat}, memN i l = true ↔ i ∈ l
  | [], i => by simp [memN]
  | j :: r, i => by
    by_cases h : i = j
    · simp [memN, h]
    · have h' : (i == j) = false := by simpa using h
      simp [memN, h', h, memN_iff]
theorem disjN_spec : ∀ {l m : List Nat}, disjN l m = true → ∀ i ∈ l, i ∉ m
  | [], _, _, i, hi => by cases hi
  | j :: r, m, h, i, hi => by
    simp only [disjN] at h
    cases hm : memN j m with
    | true => rw [hm] at h; cases h
    | false =>
      rw [hm] at h
      rcases List.mem_cons.1 hi with rfl | hi
      · intro hh
        rw [memN_iff.2 hh] at hm; cases hm
      · exact disjN_spec h i hi
theorem susOK_spec {log : Log} : ∀ {sus : List (Nat × Nat)}, susOK log sus = true → ∀ i j, (i, j) ∈ sus → (∀ id ∈ (logAt i log).2, id ∉ (logAt j log).1) ∧ ∀ id ∈ (logAt j log).2, id ∉ (logAt i log).1
  | [], _, i, j, h => by cases h
  | p :: r, h, i, j, hm => by
    simp only [susOK] at h
    cases h1 : disjN (logAt p.1 log).2 (logAt p.2 log).1 <;> rw [h1] at h
    · cases h
    · cases h2 : disjN (logAt p.2 log).2 (logAt p.1 log).1 <;> rw [h2] at h
      · cases h
      · rcases List.mem_cons.1 hm with he | hm
        · subst he
          exact ⟨disjN_spec h1, disjN_spec h2⟩
        · exact susOK_spec h i j hm

def dstsB (n : Nat) (l : List Oper) : Bool := l.all fun o => match o.dst with | some d => decide (d < n) | none => true
/-- the code of a round: no loop over a function in it, no deferred call -/
def calmB : Code → Bool
  | .region _ ops _ => ops.toList.all fun o => notDefer o.op
  | .seq a b => calmB a && calmB b
  | .cond _ a b => calmB a && calmB b
  | .block _ c => calmB c
  | .loop c => calmB c
  | .rangeFunc _ _ _ _ => false
  | _ => true
def codeB (n : Nat) (L : Sus) : Code → Bool
  | .region id ops dr => dstsB n ops.toList && (!dr || orderX ops.toList (susOf id L))
  | .seq a b => codeB n L a && codeB n L b
  | .cond _ a b => codeB n L a && codeB n L b
  | .block _ c => codeB n L c
  | .loop c => codeB n L c
  | .rangeFunc _ ps a c => ((calmB a && codeB n L a) && calmB c) && (ps.toList.all (fun p => decide (p < n)) && codeB n L c)
  | .scope c => codeB n L c
  | _ => true

section
variable {X : Ctx} {s : S} {a : Act} {w : World} {β : Nat → Value}

theorem dsts_of {n : Nat} {l : List Oper} (h : dstsB n l = true) (i : Nat) (o : Oper) (d : Nat) (hi : l[i]? = some o) (hd : o.dst = some d) : d < n := by
  have := List.all_eq_true.1 h o (List.mem_of_getElem? hi)
  rw [hd] at this
  simpa using this

end
end Go.Vx
end

section
set_option linter.unusedVariables false
set_option linter.unusedSimpArgs false
namespace Go.Vx
open Go Go.RowKit

section
variable {X : Ctx} {s s0 : S} {a : Act} {w : World} {β : Nat → Value} {ρ : List (Nat × Nat)}

theorem SameO.cases {ver ver0 : Nat} {b b0 : Box} (h : SameO ver ver0 b b0) : (∃ e xs, b = .arr e ver xs ∧ b0 = .arr e ver0 xs) ∨ (∃ xs, b = .frz ver xs ∧ b0 = .frz ver0 xs) ∨ ∃ e r r0 rows, b = .nest e ver r none rows ∧ b0 = .nest e ver0 r0 none rows := by
  cases b <;> cases b0 <;> simp only [SameO] at h <;> try (exact h.elim)
  · obtain ⟨rfl, rfl, rfl, rfl⟩ := h
    exact .inl ⟨_, _, rfl, rfl⟩
  · obtain ⟨rfl, rfl, rfl⟩ := h
    exact .inr (.inl ⟨_, rfl, rfl⟩)
  · rename_i e v r dt rows e' v' r' dt' rows'
    cases dt <;> cases dt' <;> simp only [] at h <;> try (exact h.elim)
    obtain ⟨rfl, rfl, rfl, rfl⟩ := h
    exact .inr (.inr ⟨_, _, _, _, rfl, rfl⟩)
theorem bothC.cases {b b0 : Box} (h : bothC b b0) : (∃ cs, b = .cells cs) ∧ ∃ cs, b0 = .cells cs := by
  cases b <;> cases b0 <;> simp only [bothC] at h <;> try (exact h.elim)
  exact ⟨⟨_, rfl⟩, ⟨_, rfl⟩⟩

theorem bothM.cases {b b0 : Box} (h : bothM b b0) : (∃ kt et es, b = .map kt et es) ∧ ∃ kt et es, b0 = .map kt et es := by
  cases b <;> cases b0 <;> simp only [bothM] at h <;> try (exact h.elim)
  exact ⟨⟨_, _, _, rfl⟩, ⟨_, _, _, rfl⟩⟩

/-- frozen boxes are by value -/
def FrzV (w : World) (M : Nat → Prop) (β : Nat → Value) (bx : List (Nat × Box)) : Prop := ∀ id v xs, lookB id bx = .frz v xs → Rp w M (outerV (β id)) (.sl xs)

theorem SameR.cases {rv rv0 : Nat} {b b0 : Box} (h : SameR rv rv0 b b0) : ∃ e n n0 rows, b = .nest e n rv none rows ∧ b0 = .nest e n0 rv0 none rows := by
  cases b <;> cases b0 <;> simp only [SameR] at h <;> try (exact h.elim)
  rename_i e n r dt rows e' n' r' dt' rows'
  cases dt <;> cases dt' <;> simp only [SameR] at h
  obtain ⟨rfl, rfl, rfl, rfl⟩ := h
  exact ⟨_, _, _, _, rfl, rfl⟩
theorem FitV0.rv {bx bx0 : List (Nat × Box)} {M M' : Nat → Prop} {v : Value} {av av0 : AV} (hf : FitV0 ρ bx bx0 av av0) (hz : FrzV w M β bx) (hM : ∀ k, M' k → M k) (hv : RV w M β (lookB · bx) v av) : RV w M' (fun i => β (ren ρ i)) (lookB · bx0) v av0 := by
  have hk : Kept w M w M' := fun k _ hn => ⟨rfl, fun hm => hn (hM k hm)⟩
  cases av0 with
  | top => exact .top v
  | c d =>
    simp only [FitV0] at hf
    unfold FitC at hf
    split at hf
    · have hvn : v = .slice none 0 0 := by cases hv.to_c; rfl
      subst hvn
      rcases hf with rfl | rfl
      · exact .c _ _ (.sc _ rfl)
      · exact .c _ _ (Rp.nil _ _)
    · subst hf
      exact .c _ _ (hv.to_c.keep hk)
    · rename_i id ver
      cases hv with
      | osl _ _ _ h1 hok =>
        cases hb : lookB id bx <;> rw [hb] at hf hok <;> simp only [FitZ] at hf <;> try (exact hf.elim)
        obtain ⟨rfl, rfl⟩ := hf
        rw [hok.2 rfl]
        exact .c _ _ ((hz id _ _ hb).keep hk)
    · exact hf.elim
  | ag ds =>
    simp only [FitV0] at hf
    subst hf
    cases hv with
    | ag cs _ hs h => exact .ag cs ds hs fun j d hd => (h j d hd).keep hk
  | ip ds =>
    simp only [FitV0] at hf
    subst hf
    cases hv with
    | ip ad _ cell hb hn hcell h => exact .ip ad ds cell hb (fun hm => hn (hM _ hm)) hcell fun j d hd => (h j d hd).keep hk
  | fn f cs =>
    cases cs with
    | nil =>
      simp only [FitV0] at hf
      subst hf
      cases hv with
      | fn _ caps _ hs h => exact .fn f caps [] hs fun j av hj => by simp at hj
    | cons _ _ => exact hf.elim
  | osl id0 ver0 =>
    simp only [FitV0] at hf
    cases av <;> simp only [FitO] at hf <;> try (exact hf.elim)
    rename_i id ver
    obtain ⟨rfl, hso⟩ := hf
    cases hv with
    | osl _ _ _ h1 hok =>
      refine .osl id0 ver0 v h1 ?_
      rcases hso.cases with ⟨e, xs, e1, e2⟩ | ⟨xs, e1, e2⟩ | ⟨e, r, r0, rows, e1, e2⟩
      · simp only [e1] at hok
        simp only [e2]
        exact ⟨Nat.le_refl _, fun _ => hok.2 rfl⟩
      · simp only [e1] at hok
        simp only [e2]
        exact ⟨Nat.le_refl _, fun _ => hok.2 rfl⟩
      · simp only [e1] at hok
        simp only [e2]
        exact ⟨Nat.le_refl _, fun _ => hok.2 rfl⟩
  | bp id0 off0 =>
    simp only [FitV0] at hf
    cases av <;> simp only [FitP] at hf <;> try (exact hf.elim)
    obtain ⟨rfl, rfl, hbc⟩ := hf
    obtain ⟨⟨cs, e1⟩, ⟨cs0, e2⟩⟩ := hbc.cases
    cases hv with
    | bp _ _ g cs' hl hb => exact .bp id0 _ g cs0 e2 hb
  | mp id0 =>
    simp only [FitV0] at hf
    cases av <;> simp only [FitM] at hf <;> try (exact hf.elim)
    obtain ⟨rfl, hbc⟩ := hf
    obtain ⟨⟨kt, et, es, e1⟩, ⟨kt0, et0, es0, e2⟩⟩ := hbc.cases
    cases hv with
    | mp _ g kt' et' es' hl hb => exact .mp id0 g kt0 et0 es0 e2 hb
  | tp vs => exact hf.elim
  | op id ver i sz off => exact hf.elim
  | fr e xs => exact hf.elim
  | agv vs => exact hf.elim
  | fsl id0 rv0 p0 =>
    simp only [FitV0] at hf
    cases av <;> simp only [FitS] at hf <;> try (exact hf.elim)
    rename_i id rv p
    obtain ⟨rfl, rfl, hso⟩ := hf
    cases hv with
    | fsl _ _ _ _ h1 hok =>
      refine .fsl id0 rv0 _ v h1 ?_
      obtain ⟨e, n, n0, rows, e1, e2⟩ := hso.cases
      simp only [e1] at hok
      simp only [e2]
      exact ⟨Nat.le_refl _, fun _ => hok.2 rfl⟩
  | fop id rv p j sz off => exact hf.elim
  | csl id ver lo n sz => exact hf.elim
  | cfl id rv p n => exact hf.elim
  | zp T =>
    simp only [FitV0] at hf
    subst hf
    cases hv with
    | zp _ => exact .zp T

theorem FitL0.at {bx bx0 : List (Nat × Box)} : ∀ {cs cs0 : List AV}, FitL0 ρ bx bx0 cs cs0 → cs.length = cs0.length ∧ ∀ (j : Nat) av0, cs0[j]? = some av0 → ∃ av, cs[j]? = some av ∧ FitV0 ρ bx bx0 av av0
  | [], [], _ => ⟨rfl, fun j av0 h => by simp at h⟩
  | [], _ :: _, h => h.elim
  | _ :: _, [], h => h.elim
  | v :: r, v0 :: r0, h => by
    obtain ⟨h1, h2⟩ := FitL0.at (cs := r) h.2
    refine ⟨by simp [h1], fun j av0 hj => ?_⟩
    cases j with
    | zero =>
      simp only [List.getElem?_cons_zero, Option.some.injEq] at hj
      subst hj
      exact ⟨v, rfl, h.1⟩
    | succ j => exact h2 j av0 (by simpa using hj)

theorem FitV.rv {bx bx0 : List (Nat × Box)} {M M' : Nat → Prop} {v : Value} {av av0 : AV} (hf : FitV ρ bx bx0 av av0) (hz : FrzV w M β bx) (hM : ∀ k, M' k → M k) (hv : RV w M β (lookB · bx) v av) : RV w M' (fun i => β (ren ρ i)) (lookB · bx0) v av0 := by
  cases av0 with
  | fn f cs0 =>
    simp only [FitV] at hf
    cases av <;> simp only [FitF] at hf <;> try (exact hf.elim)
    rename_i f' cs
    obtain ⟨rfl, hl⟩ := hf
    obtain ⟨hlen, hat⟩ := FitL0.at hl
    cases hv with
    | fn _ caps _ hs h =>
      refine .fn _ caps cs0 (hs.trans hlen) fun j av0 hj => ?_
      obtain ⟨av, ha, hfv⟩ := hat j av0 hj
      exact hfv.rv hz hM (h j av ha)
  | top => exact FitV0.rv (av0 := .top) hf hz hM hv
  | c d => exact FitV0.rv (av0 := .c d) hf hz hM hv
  | ag ds => exact FitV0.rv (av0 := .ag ds) hf hz hM hv
  | ip ds => exact FitV0.rv (av0 := .ip ds) hf hz hM hv
  | osl id0 ver0 => exact FitV0.rv (av0 := .osl id0 ver0) hf hz hM hv
  | bp id0 off0 => exact FitV0.rv (av0 := .bp id0 off0) hf hz hM hv
  | mp id0 => exact FitV0.rv (av0 := .mp id0) hf hz hM hv
  | tp vs => exact hf.elim
  | op id ver i sz off => exact hf.elim
  | fr e xs => exact hf.elim
  | agv vs => exact hf.elim
  | fsl id0 rv0 p0 => exact FitV0.rv (av0 := .fsl id0 rv0 p0) hf hz hM hv
  | fop id rv p j sz off => exact hf.elim
  | csl id ver lo n sz => exact hf.elim
  | cfl id rv p n => exact hf.elim
  | zp T => exact FitV0.rv (av0 := .zp T) hf hz hM hv

theorem FitL.at {bx bx0 : List (Nat × Box)} : ∀ {cs cs0 : List AV}, FitL ρ bx bx0 cs cs0 → cs.length = cs0.length ∧ ∀ (j : Nat) av0, cs0[j]? = some av0 → ∃ av, cs[j]? = some av ∧ FitV ρ bx bx0 av av0
  | [], [], _ => ⟨rfl, fun j av0 h => by simp at h⟩
  | [], _ :: _, h => h.elim
  | _ :: _, [], h => h.elim
  | v :: r, v0 :: r0, h => by
    obtain ⟨h1, h2⟩ := FitL.at (cs := r) h.2
    refine ⟨by simp [h1], fun j av0 hj => ?_⟩
    cases j with
    | zero =>
      simp only [List.getElem?_cons_zero, Option.some.injEq] at hj
      subst hj
      exact ⟨v, rfl, h.1⟩
    | succ j => exact h2 j av0 (by simpa using hj)

theorem LeB_at : ∀ {l : List (Nat × Box)}, LeB ρ s s0.bx l → ∀ id0, lookB id0 l = .dead ∨ FitB ρ s.bx s0.bx (lookB (ren ρ id0) s.bx) (lookB id0 l)
  | [], _, id0 => .inl rfl
  | p :: r, h, id0 => by
    rw [lookB_cons]
    by_cases hi : id0 = p.1
    · rw [if_pos hi, hi]; exact .inr h.1
    · rw [if_neg hi]; exact LeB_at h.2 id0
theorem LeF_at : ∀ {l : List (Nat × AV)}, LeF ρ s s0.bx l → ∀ i, FitV ρ s.bx s0.bx (look i s.fr) (look i l)
  | [], _, i => trivial
  | p :: r, h, i => by
    rw [look_cons]
    by_cases hi : i = p.1
    · rw [if_pos hi, hi]; exact h.1
    · rw [if_neg hi]; exact LeF_at h.2 i

theorem nodupR_notin : ∀ {l : List (Nat × Box)} {seen : List Nat}, nodupR ρ l seen = true → ∀ i, (∃ b, (i, b) ∈ l) → ren ρ i ∉ seen
  | [], _, _, i, ⟨b, h⟩ => by cases h
  | p :: r, seen, h, i, ⟨b, hb⟩ => by
    simp only [nodupR] at h
    cases hm : memN (ren ρ p.1) seen <;> rw [hm] at h
    · rcases List.mem_cons.1 hb with he | hb
      · subst he
        intro hh
        rw [memN_iff.2 hh] at hm; cases hm
      · intro hh
        exact nodupR_notin h i ⟨b, hb⟩ (List.mem_cons_of_mem _ hh)
    · cases h
theorem nodupR_inj : ∀ {l : List (Nat × Box)} {seen : List Nat}, nodupR ρ l seen = true → ∀ i j, (∃ b, (i, b) ∈ l) → (∃ b, (j, b) ∈ l) → ren ρ i = ren ρ j → i = j
  | [], _, _, i, j, ⟨b, h⟩, _, _ => by cases h
  | p :: r, seen, h, i, j, ⟨b, hb⟩, ⟨b', hb'⟩, he => by
    simp only [nodupR] at h
    cases hm : memN (ren ρ p.1) seen <;> rw [hm] at h
    · simp only [cond_false] at h
      rcases List.mem_cons.1 hb with h1 | h1 <;> rcases List.mem_cons.1 hb' with h2 | h2
      · rw [← h1] at h2
        exact (congrArg Prod.fst h2).symm
      · exact (nodupR_notin h j ⟨b', h2⟩ (by rw [← he, ← h1]; exact List.mem_cons_self ..)).elim
      · exact (nodupR_notin h i ⟨b, h1⟩ (by rw [he, ← h2]; exact List.mem_cons_self ..)).elim
      · exact nodupR_inj h i j ⟨b, h1⟩ ⟨b', h2⟩ he
    · cases h
theorem lookB_mem {id : Nat} : ∀ {l : List (Nat × Box)}, lookB id l ≠ .dead → ∃ b, (id, b) ∈ l
  | [], h => (h rfl).elim
  | p :: r, h => by
    rw [lookB_cons] at h
    by_cases hi : id = p.1
    · exact ⟨p.2, by rw [hi]; exact List.mem_cons_self ..⟩
    · rw [if_neg hi] at h
      obtain ⟨b, hb⟩ := lookB_mem h
      exact ⟨b, List.mem_cons_of_mem _ hb⟩

theorem FitCs.at {bx bx0 : List (Nat × Box)} : ∀ {cs cs0 : List AV}, FitCs ρ bx bx0 cs cs0 → cs.length = cs0.length ∧ ∀ (j : Nat) av0, cs0[j]? = some av0 → ∃ av, cs[j]? = some av ∧ FitV ρ bx bx0 av av0 ∧ cellF av0 = true
  | [], [], _ => ⟨rfl, fun j av0 h => by simp at h⟩
  | [], _ :: _, h => h.elim
  | _ :: _, [], h => h.elim
  | v :: r, v0 :: r0, h => by
    obtain ⟨h1, h2⟩ := FitCs.at (cs := r) h.2
    refine ⟨by simp [h1], fun j av0 hj => ?_⟩
    cases j with
    | zero =>
      simp only [List.getElem?_cons_zero, Option.some.injEq] at hj
      subst hj
      exact ⟨v, rfl, h.1⟩
    | succ j => exact h2 j av0 (by simpa using hj)

theorem FitV.cellT {bx bx0 : List (Nat × Box)} {av av0 : AV} {el : Nat} (h : FitV ρ bx bx0 av av0) (hc : cellF av0 = true) (ht : Vx.cellT el av) : Vx.cellT el av0 := by
  cases av0 <;> first | exact cellT_of hc | (cases (show av = _ from h); exact ht)
theorem Inv.frzV (h : Inv X s a w β) : FrzV w (Vx.MM X (lookB · s.bx) β) β s.bx := fun id v xs hl => by
  have := h.box id
  rw [hl] at this
  exact this

/-- boxes under new names -/
theorem LeB.mm {bx bx0 : List (Nat × Box)} (hB : LeB ρ ⟨s.fr, bx⟩ bx0 bx0) : (∀ id0, live (lookB id0 bx0) = true → live (lookB (ren ρ id0) bx) = true) := fun id0 hl => by
  rcases LeB_at (s := ⟨s.fr, bx⟩) (s0 := ⟨[], bx0⟩) hB id0 with hd | hb
  · rw [hd] at hl; cases hl
  · revert hb hl
    simp only []
    generalize lookB (ren ρ id0) bx = b
    generalize lookB id0 bx0 = b0
    intro hl hb
    cases b <;> cases b0 <;> first | rfl | (exact hb.elim) | (cases hl; done) | (simp [FitB] at hb)

theorem LeB.boxes {Y : Ctx} (hE : Y.E = X.E) (hbox : ∀ id, BoxOK X w (MM X (lookB · s.bx) β) β (lookB · s.bx) id (lookB id s.bx)) (hown : ∀ id0 k, live (lookB id0 s0.bx) = true → Blk (β (ren ρ id0)) k → Y.own k)
    (hB : LeB ρ s s0.bx s0.bx) (hMM : ∀ k, MM Y (lookB · s0.bx) (fun i => β (ren ρ i)) k → MM X (lookB · s.bx) β k) (id0 : Nat) :
    BoxOK Y w (MM Y (lookB · s0.bx) (fun i => β (ren ρ i))) (fun i => β (ren ρ i)) (lookB · s0.bx) id0 (lookB id0 s0.bx) := by
  have hk : Kept w (MM X (lookB · s.bx) β) w (MM Y (lookB · s0.bx) (fun i => β (ren ρ i))) := fun k _ hn => ⟨rfl, fun hm => hn (hMM k hm)⟩
  have hz : FrzV w (MM X (lookB · s.bx) β) β s.bx := fun id v xs hl => by
    have := hbox id
    rw [hl] at this
    exact this
  rcases LeB_at hB id0 with hd | hb
  · rw [hd]; trivial
  · have hbox := hbox (ren ρ id0)
    have hown := hown id0
    cases hb0 : lookB id0 s0.bx with
    | dead => trivial
    | cells cs0 =>
      rw [hb0] at hb hown
      cases hbb : lookB (ren ρ id0) s.bx <;> rw [hbb] at hb hbox <;> simp only [FitB] at hb <;> try (exact hb.elim)
      obtain ⟨hlen, hat⟩ := FitCs.at hb
      obtain ⟨g, el, conc, e1, e2, e3, e4, e5⟩ := hbox
      refine ⟨g, el, conc, e1, hown g rfl (by rw [e1]; rfl), e3, e4.trans hlen, fun j av0 hj => ?_⟩
      obtain ⟨av, ha, hf, hc⟩ := hat j av0 hj
      exact ⟨FitV.cellT hf hc (e5 j av ha).1, hf.rv hz hMM (e5 j av ha).2⟩
    | arr e ver xs =>
      rw [hb0] at hb hown
      cases hbb : lookB (ren ρ id0) s.bx <;> rw [hbb] at hb hbox <;> simp only [FitB] at hb <;> try (exact hb.elim)
      obtain ⟨rfl, rfl⟩ := hb
      obtain ⟨te, flat, e1, e2, e3, e4, e5, e6⟩ := hbox
      exact ⟨te, flat, by rw [hE]; exact e1, e2, e3, e4, fun k hk => hown k rfl hk, fun i x j d hx hd => (e6 i x j d hx hd).keep hk⟩
    | frz ver xs =>
      rw [hb0] at hb
      cases hbb : lookB (ren ρ id0) s.bx <;> rw [hbb] at hb hbox <;> simp only [FitB] at hb <;> try (exact hb.elim)
      subst hb
      exact Rp.keep hbox hk
    | map kt et es =>
      rw [hb0] at hb hown
      cases hbb : lookB (ren ρ id0) s.bx <;> rw [hbb] at hb hbox <;> simp only [FitB] at hb <;> try (exact hb.elim)
      obtain ⟨rfl, rfl, rfl⟩ := hb
      obtain ⟨g, ents, clock, e1, e2, e3, e4, e5⟩ := hbox
      exact ⟨g, ents, clock, e1, hown g rfl (by rw [e1]; rfl), e3, e4, by rw [hE]; exact e5⟩
    | nest e ver rv dt rows =>
      rw [hb0] at hb hown
      cases hbb : lookB (ren ρ id0) s.bx <;> rw [hbb] at hb hbox <;> simp only [FitB] at hb <;> try (exact hb.elim)
      rename_i e' v' r' dt' rows'
      cases dt <;> cases dt' <;> simp only [] at hb <;> try (exact hb.elim)
      obtain ⟨rfl, rfl⟩ := hb
      obtain ⟨te, e2, te2, vs, cs, flat, hn⟩ := hbox
      exact ⟨te, e2, te2, vs, cs, flat, { hn with ty := by rw [hE]; exact hn.ty, ty' := by rw [hE]; exact hn.ty', at_ := fun p r hp i x j d hx hd => (hn.at_ p r hp i x j d hx hd).keep hk, own := fun k hk => hown k rfl hk }⟩

theorem PinL_at {bx bx0 : List (Nat × Box)} : ∀ {l : List (Nat × Box)}, PinL ρ bx bx0 l → ∀ id, lookB id l = .dead ∨ PinV id (ren ρ id) (lookB id l) (lookB (ren ρ id) bx) (lookB id bx0)
  | [], _, id => .inl rfl
  | p :: r, h, id => by
    rw [lookB_cons]
    by_cases hi : id = p.1
    · rw [if_pos hi, hi]; exact .inr h.1
    · rw [if_neg hi]; exact PinL_at h.2 id

theorem Inv.into (h : Inv X s a w β) (hi : Into ρ s s0) (hp : PinL ρ s.bx s0.bx X.pb) : Inv X s0 a w (fun i => β (ren ρ i)) := by
  obtain ⟨hF, hB, hN⟩ := hi
  have hlive := LeB.mm (s := s) hB
  have hMM : ∀ k, Vx.MM X (lookB · s0.bx) (fun i => β (ren ρ i)) k → Vx.MM X (lookB · s.bx) β k := fun k hk => by
    rcases hk with hk | ⟨id0, hl, hb⟩
    · exact .inl hk
    · exact .inr ⟨ren ρ id0, hlive id0 hl, hb⟩
  refine ⟨h.df, h.sz, h.keep, h.m0, fun id0 => LeB.boxes rfl h.box (fun id0 k hl hb => ((h.box (ren ρ id0)).lt (hlive id0 hl) hb).2) hB hMM id0, fun i j k hi hj hbi hbj => ?_, fun i => (LeF_at hF i).rv h.frzV hMM (h.fr i), fun id => ?_⟩
  · refine nodupR_inj hN i j (lookB_mem fun hd => ?_) (lookB_mem fun hd => ?_) (h.inj _ _ k (hlive i hi) (hlive j hj) hbi hbj)
    · rw [hd] at hi; cases hi
    · rw [hd] at hj; cases hj
  · rcases PinL_at hp id with hd | hv
    · rw [hd]; trivial
    · have h1 := h.pin id
      have h2 := h.pin (ren ρ id)
      have hbf := LeB_at hB id
      cases hpb : lookB id X.pb with
      | dead => trivial
      | cells cs =>
        rw [hpb] at hv h1
        cases hb0 : lookB id s0.bx <;> rw [hb0] at hv <;> simp only [PinV] at hv <;> try (exact hv.elim)
        rw [hv]
        exact ⟨⟨_, rfl⟩, h1.2⟩
      | map kt et es =>
        rw [hpb] at hv h1
        cases hb0 : lookB id s0.bx <;> rw [hb0] at hv <;> simp only [PinV] at hv <;> try (exact hv.elim)
        rw [hv]
        exact ⟨⟨_, _, _, rfl⟩, h1.2⟩
      | arr e n ys =>
        rw [hpb] at hv h1
        rcases hbf with hd | hbf
        · rw [hd] at hv
          cases hb1 : lookB (ren ρ id) s.bx <;> rw [hb1] at hv <;> exact hv.elim
        · cases hb1 : lookB (ren ρ id) s.bx <;> cases hb0 : lookB id s0.bx <;> rw [hb1, hb0] at hv hbf <;> simp only [PinV] at hv <;> try (exact hv.elim)
          · rename_i e1 v1 xs1 e0 v0 xs0
            obtain ⟨rfl, rfl⟩ := hbf
            rcases hv with ⟨he, rfl⟩ | hlt
            · rw [he] at hb1 ⊢
              rw [hb1] at h1
              rcases h1 with ⟨e', n', xs', hh, hn, hv'⟩ | ⟨n', xs', hh, _⟩
              · injection hh with g1 g2 g3
                subst g1; subst g2; subst g3
                exact .inl ⟨_, _, _, rfl, hn, hv'⟩
              · cases hh
            · exact .inl ⟨_, _, _, rfl, Nat.le_of_lt hlt, fun he => by omega⟩
          · rename_i v1 xs1 v0 xs0
            have hbf : xs1 = xs0 := hbf
            subst hbf
            rcases hv with ⟨he, rfl⟩ | hlt
            · rw [he] at hb1 ⊢
              rw [hb1] at h1
              rcases h1 with ⟨e', n', xs', hh, hn, hv'⟩ | ⟨n', xs', hh, hn, hv'⟩
              · cases hh
              · injection hh with g1 g2
                subst g1; subst g2
                exact .inr ⟨_, _, rfl, hn, hv'⟩
            · exact .inr ⟨_, _, rfl, Nat.le_of_lt hlt, fun he => by omega⟩
      | frz n ys =>
        rw [hpb] at hv h1
        cases hb1 : lookB (ren ρ id) s.bx <;> cases hb0 : lookB id s0.bx <;> rw [hb1, hb0] at hv <;> simp only [PinV] at hv <;> try (exact hv.elim)
        obtain ⟨he, rfl⟩ := hv
        rw [he] at hb1 ⊢
        rw [hb1] at h1
        obtain ⟨⟨xs', hh⟩, hv'⟩ := h1
        injection hh with g1 g2
        subst g1
        exact ⟨⟨_, rfl⟩, hv'⟩
      | nest e n r dt rows =>
        rw [hpb] at hv
        cases hb1 : lookB (ren ρ id) s.bx <;> cases hb0 : lookB id s0.bx <;> rw [hb1, hb0] at hv <;> exact hv.elim

/-- an empty slice is owned by whoever says so -/
theorem Inv.owns (hE : EnvOK X.P X.E) : ∀ (gs : List (Nat × (Nat × Nat))) {s : S} {β : Nat → Value}, OwnsOK X.E gs s → Inv X s a w β → ∃ β', Inv X (ownS gs s) a w β'
  | [], s, β, _, h => ⟨β, h⟩
  | g :: r, s, β, ho, h => by
    obtain ⟨h1, h2, h3, h4⟩ := ho
    unfold ownK at h3
    unfold ownBx at h4
    unfold ownS ownBx
    cases hbig : decide (100000 ≤ g.2.2) with
    | true =>
      rw [hbig] at h3 h4
      simp only [cond_true] at h3 h4 ⊢
      unfold isSlT at h3
      split at h3
      · rename_i te hT
        have hty := hE _ te hT
        simp only [Bool.and_eq_true, beq_iff_eq] at h3
        obtain ⟨hsk, hone⟩ := h3
        obtain ⟨e2, hk2⟩ : ∃ e2, te.kind = .slice e2 := by
          cases hkk : te.kind <;> rw [hkk] at hsk <;> first | (cases hsk; done) | exact ⟨_, rfl⟩
        obtain ⟨_, _, te2, hEe2, h02, _⟩ := KindOK.slice hty hk2
        have hno : ∀ k, ¬ Blk (.tuple [Value.slice none 0 0].toArray) k := fun k hk => by
          rcases blk_tuple.1 hk with h1 | ⟨p, h1⟩
          · cases h1
          · simp [blk, undef] at h1
        have hch : Changed X s w β g.2.1 (.nest (g.2.2 - 100000) 0 0 none []) (.tuple [Value.slice none 0 0].toArray) w :=
          ⟨rfl, rfl, rfl, Nat.le_refl _, fun _ _ _ => rfl, fun k _ hk => (hno k hk).elim, by rw [h2]; trivial⟩
        have hinv := h.upd hch ⟨te, e2, te2, _, _, _, by rw [upd1_same]; exact (nv_nil X w _ _ e2 te2).nest hT hone hk2 hEe2 h02 fun k hk => (hno k hk).elim⟩
        refine Inv.owns hE r (β := upd1 β g.2.1 (.tuple [Value.slice none 0 0].toArray)) h4 ⟨hinv.df, hinv.sz, hinv.keep, hinv.m0, hinv.box, hinv.inj, fun i => ?_, hinv.pin⟩
        rw [look_cons]
        by_cases hi : i = g.1
        · rw [if_pos hi, hi]
          have hv := h.fr g.1
          rw [h1] at hv
          refine .osl _ _ _ hv.to_c.one ?_
          simp only [lookB_cons, if_true]
          refine ⟨Nat.le_refl _, fun _ => ?_⟩
          rw [upd1_same]
          generalize a.tmps.getD g.1 undef = vv at hv
          cases hv.to_c; rfl
        · rw [if_neg hi]
          exact hinv.fr i
      · cases h3
    | false =>
    rw [hbig] at h3 h4
    simp only [cond_false] at h3 h4 ⊢
    cases hT : X.E g.2.2 with
    | none => rw [hT] at h3; cases h3
    | some te =>
      have hty := hE _ te hT
      have hch : Changed X s w β g.2.1 (.arr g.2.2 0 []) (.slice none 0 0) w :=
        ⟨rfl, rfl, rfl, Nat.le_refl _, fun _ _ _ => rfl, fun k _ hk => (by cases hk), by rw [h2]; trivial⟩
      have hinv := h.upd hch ⟨te, [], hT, hty.pos, by simp, by rw [upd1_same]; exact World.ownsRow_nil w 0 _ _, fun k hk => (by rw [upd1_same] at hk; cases hk), fun i x j d hx => (by simp at hx)⟩
      refine Inv.owns hE r (β := upd1 β g.2.1 (.slice none 0 0)) h4 ⟨hinv.df, hinv.sz, hinv.keep, hinv.m0, hinv.box, hinv.inj, fun i => ?_, hinv.pin⟩
      rw [look_cons]
      by_cases hi : i = g.1
      · rw [if_pos hi, hi]
        have hv := h.fr g.1
        rw [h1] at hv
        refine .osl _ _ _ hv.to_c.one ?_
        simp only [lookB_cons, if_true]
        refine ⟨Nat.le_refl _, fun _ => ?_⟩
        rw [upd1_same]
        generalize a.tmps.getD g.1 undef = vv at hv
        cases hv.to_c; rfl
      · rw [if_neg hi]
        exact hinv.fr i

theorem Inv.frzB : ∀ (φ : List Nat) {bx : List (Nat × Box)}, Inv X ⟨s.fr, bx⟩ a w β → Inv X ⟨s.fr, Vx.frzB φ bx⟩ a w β
  | [], bx, h => h
  | id :: r, bx, h => by
    unfold Vx.frzB
    refine Inv.frzB r ?_
    cases hb : lookB id bx with
    | arr e v xs => exact h.freeze (s := ⟨s.fr, bx⟩) hb
    | nest e v r dt rows =>
      cases dt with
      | none => exact h.freezeN (s := ⟨s.fr, bx⟩) hb
      | some _ => exact h
    | _ => exact h

theorem Enter.inv (hE : EnvOK X.P X.E) (he : Enter X.E X.pb s s0) (h : Inv X s a w β) : ∃ β', Inv X s0 a w β' := by
  obtain ⟨gs, φ, ρ, h1, h2, h3⟩ := he
  obtain ⟨β', h'⟩ := h.owns hE gs h1
  exact ⟨_, (h'.frzB φ).into h2 h3⟩

end
end Go.Vx
end

section
set_option linter.unusedVariables false
namespace Go.Vx
open Go Go.RowKit

theorem Keep.refl (X : Ctx) : Keep X X.w0 := ⟨rfl, rfl, rfl, Nat.le_refl _, fun _ _ _ => rfl⟩

/-- the context of an activation, later on: the world is taken up anew, some of what was its own is its own no more -/
structure Later (X X' : Ctx) : Prop where
  P : X'.P = X.P
  E : X'.E = X.E
  n : X'.n = X.n
  pb : X'.pb = X.pb
  pv : X'.pv = X.pv
  keep : Keep X X'.w0
  own : ∀ k, X'.own k → X.own k
  m0 : ∀ k, X.M0 k → X'.M0 k
  new : ∀ k, X'.M0 k → X.M0 k ∨ X.own k
  ds : ∀ D ∈ X'.ds, D ∈ X.ds ∨ X.w0.heap.size ≤ D
  dt : X'.dt = X.dt

theorem Later.refl (X : Ctx) : Later X X := ⟨rfl, rfl, rfl, rfl, rfl, Keep.refl X, fun _ h => h, fun _ h => h, fun _ h => .inl h, fun _ h => .inl h, rfl⟩

theorem Ctx.not_own {X : Ctx} {k : Nat} (h : ¬ X.own k) : k < X.w0.heap.size ∧ ¬ X.ext k := ⟨by
  have : ¬ X.w0.heap.size ≤ k := fun hh => h (.inl hh)
  omega, fun hh => h (.inr hh)⟩
theorem Ctx.not_own' {X : Ctx} {k : Nat} (h1 : k < X.w0.heap.size) (h2 : ¬ X.ext k) : ¬ X.own k := fun hh => by
  rcases hh with hh | hh
  · omega
  · exact h2 hh

theorem Later.world {X X' : Ctx} (h : Later X X') {w : World} (hk : Keep X' w) : Keep X w :=
  ⟨hk.os.trans h.keep.os, hk.tape.trans h.keep.tape, hk.output.trans h.keep.output, Nat.le_trans h.keep.size hk.size, fun k h1 h2 => by
    obtain ⟨g1, g2⟩ := Ctx.not_own (X := X') fun ho => Ctx.not_own' h1 h2 (h.own k ho)
    exact (hk.block k g1 g2).trans (h.keep.block k h1 h2)⟩

theorem Later.trans {X Y Z : Ctx} (h : Later X Y) (k : Later Y Z) : Later X Z :=
  ⟨k.P.trans h.P, k.E.trans h.E, k.n.trans h.n, k.pb.trans h.pb, k.pv.trans h.pv, h.world k.keep, fun b hb => h.own b (k.own b hb), fun b hb => k.m0 b (h.m0 b hb),
    fun b hb => by
      rcases k.new b hb with hb | hb
      · exact h.new b hb
      · exact .inr (h.own b hb),
    fun D hD => by
      rcases k.ds D hD with hD | hD
      · exact h.ds D hD
      · exact .inr (Nat.le_trans h.keep.size hD), k.dt.trans h.dt⟩

section
variable {X Y : Ctx} {s s0 : S} {a : Act} {w w' : World} {β : Nat → Value}

theorem BoxOK.ctx {M : Nat → Prop} {lk : Nat → Box} {id : Nat} {b : Box} (h : BoxOK X w M β lk id b) (hE : Y.E = X.E) (ho : ∀ k, live b = true → Blk (β id) k → Y.own k) : BoxOK Y w M β lk id b := by
  cases b with
  | dead => trivial
  | cells cs =>
    obtain ⟨g, el, conc, e, _, rest⟩ := h
    exact ⟨g, el, conc, e, ho g rfl (by rw [e]; rfl), rest⟩
  | arr e ver xs =>
    obtain ⟨te, flat, h1, h2, h3, h4, _, h6⟩ := h
    exact ⟨te, flat, by rw [hE]; exact h1, h2, h3, h4, fun k hk => ho k rfl hk, h6⟩
  | frz ver xs => exact h
  | map kt et es =>
    obtain ⟨g, ents, clock, e, _, h1, h2, h3⟩ := h
    exact ⟨g, ents, clock, e, ho g rfl (by rw [e]; rfl), h1, h2, by rw [hE]; exact h3⟩
  | nest e ver rv dt rows =>
    obtain ⟨te, e', te', vs, cs, flat, hn⟩ := h
    exact ⟨te, e', te', vs, cs, flat, { hn with ty := by rw [hE]; exact hn.ty, ty' := by rw [hE]; exact hn.ty', own := fun k hk => ho k rfl hk }⟩

/-- the boxes, and the values, in another world and another context -/
structure Moved (X Y : Ctx) (bx : List (Nat × Box)) (w w' : World) (β : Nat → Value) : Prop where
  E : Y.E = X.E
  size : w.heap.size ≤ w'.heap.size
  kept : Kept w (MM X (lookB · bx) β) w' (MM Y (lookB · bx) β)
  own : ∀ id k, live (lookB id bx) = true → Blk (β id) k → Y.own k ∧ w'.heap[k]? = w.heap[k]?

theorem Inv.moved (h : Inv X s a w β) {a' : Act} (hm : Moved X Y s.bx w w' β) (hd : a'.defers = Y.ds.map mark ++ Y.dt ∧ DsOK Y) (ht : a'.tmps = a.tmps) (hn : Y.n = X.n) (hk : Keep Y w') (h0 : ∀ k, Y.M0 k → k < Y.w0.heap.size ∧ ¬ Y.ext k)
    (hp : ∀ id, Turned (lookB id Y.pb) (Y.pv id) (lookB id s.bx) (β id)) : Inv Y s a' w' β := by
  refine ⟨hd, by rw [ht, hn]; exact h.sz, hk, h0, fun id => ?_, h.inj, fun i => ?_, hp⟩
  · have h1 := (h.box id).ctx (Y := Y) hm.E fun k hl hb => (hm.own id k hl hb).1
    exact h1.keep rfl (fun k hl hb => (hm.own id k hl hb).2) hm.size hm.kept fun _ => Turned.refl _ _
  · rw [ht]
    exact (h.fr i).keep hm.size hm.kept fun _ => Turned.refl _ _

/-- the same in the world that is at hand, taken up anew; what is no more its own goes to what is not read -/
theorem Inv.intoX (h : Inv X s a w β) {ρ : List (Nat × Nat)} (hi : Into ρ s s0) (hE : Y.E = X.E) (hd : a.defers = Y.ds.map mark ++ Y.dt ∧ DsOK Y) (hn : Y.n = X.n) (hk : Keep Y w) (h0 : ∀ k, Y.M0 k → k < Y.w0.heap.size ∧ ¬ Y.ext k)
    (hown : ∀ id0 k, live (lookB id0 s0.bx) = true → Blk (β (ren ρ id0)) k → Y.own k) (hMM : ∀ k, Vx.MM Y (lookB · s0.bx) (fun i => β (ren ρ i)) k → Vx.MM X (lookB · s.bx) β k)
    (hp : ∀ id, Turned (lookB id Y.pb) (Y.pv id) (lookB id s0.bx) (β (ren ρ id))) : Inv Y s0 a w (fun i => β (ren ρ i)) := by
  obtain ⟨hF, hB, hN⟩ := hi
  have hlive := LeB.mm (s := s) hB
  refine ⟨hd, by rw [hn]; exact h.sz, hk, h0, fun id0 => LeB.boxes hE h.box hown hB hMM id0, fun i j k hi hj hbi hbj => ?_, fun i => (LeF_at hF i).rv h.frzV hMM (h.fr i), hp⟩
  refine nodupR_inj hN i j (lookB_mem fun hd => ?_) (lookB_mem fun hd => ?_) (h.inj _ _ k (hlive i hi) (hlive j hj) hbi hbj)
  · rw [hd] at hi; cases hi
  · rw [hd] at hj; cases hj

/-! ### blocks of what is not read may turn; what is new is not read -/
def Ctx.past (X : Ctx) (w w' : World) : Ctx := { X with w0 := w', M0 := fun b => X.M0 b ∨ (w.heap.size ≤ b ∧ b < w'.heap.size), ext := fun b => X.own b ∧ b < w.heap.size }

theorem Inv.past (h : Inv X s a w β) {C : Nat → Prop} (hC : ∀ b, C b → X.M0 b ∧ b ∉ X.ds) (hsz : w.heap.size ≤ w'.heap.size) (hsame : ∀ b, b < w.heap.size → ¬ C b → w'.heap[b]? = w.heap[b]?) : Inv (X.past w w') s a w' β := by
  have hM0 : ∀ k, X.M0 k → k < w.heap.size := fun k hk => Nat.lt_of_lt_of_le (h.m0 k hk).1 h.keep.size
  refine h.moved ⟨rfl, hsz, fun k hk hn => ⟨hsame k hk fun hc => hn (.inl (hC k hc).1), ?_⟩, fun id k hl hb => ?_⟩ ⟨h.df.1, h.df.2.1, fun D hD => ⟨.inl (h.df.2.2 D hD).1, ?_⟩⟩ rfl rfl (Keep.refl (X.past w w')) ?_ h.pin
  · rintro (hm | hm)
    · rcases hm with hm | hm
      · exact hn (.inl hm)
      · omega
    · exact hn (.inr hm)
  · obtain ⟨h1, h2⟩ := (h.box id).lt hl hb
    exact ⟨.inr ⟨h2, h1⟩, hsame k h1 fun hc => Ctx.own_m0 h.m0 h2 (hC k hc).1⟩
  · obtain ⟨g1, g2⟩ := h.df.2.2 D hD
    have hlt := hM0 D g1
    obtain ⟨g3, g4⟩ := h.m0 D g1
    show w'.heap[D]? = _
    rw [hsame D hlt fun hc => (hC D hc).2 hD, h.keep.block D g3 g4]
    exact g2
  · rintro k (hk | hk)
    · exact ⟨Nat.lt_of_lt_of_le (hM0 k hk) hsz, fun he => Ctx.own_m0 h.m0 he.1 hk⟩
    · exact ⟨hk.2, fun he => by have := he.2; omega⟩

theorem Ctx.past_own {w w' : World} (hk : Keep X w) (hsz : w.heap.size ≤ w'.heap.size) (k : Nat) (h : (X.past w w').own k) : X.own k := by
  rcases h with h | h
  · exact .inl (Nat.le_trans (Nat.le_trans hk.size hsz) h)
  · exact h.1

theorem Later.past (hk : Keep X w) (hk' : Keep X w') (hsz : w.heap.size ≤ w'.heap.size) : Later X (X.past w w') :=
  ⟨rfl, rfl, rfl, rfl, rfl, hk', Ctx.past_own hk hsz, fun _ h => .inl h, fun b hb => by
    rcases hb with hb | hb
    · exact .inl hb
    · exact .inr (.inl (Nat.le_trans hk.size hb.1)), fun _ h => .inl h, rfl⟩

end
end Go.Vx
end

section
set_option linter.unusedVariables false
set_option linter.unusedSimpArgs false
namespace Go.Vx
open Go Go.RowKit

def findR (σ : List (Nat × Nat)) : List (Nat × Box) → Nat → Option Nat
  | [], _ => none
  | p :: r, j => if j = ren σ p.1 then some p.1 else findR σ r j

theorem findR_some {σ : List (Nat × Nat)} : ∀ {l : List (Nat × Box)} {j id : Nat}, findR σ l j = some id → j = ren σ id ∧ ∃ b, (id, b) ∈ l
  | [], _, _, h => by cases h
  | p :: r, j, id, h => by
    unfold findR at h
    split at h
    · rename_i he
      injection h with h
      subst h
      exact ⟨he, p.2, List.mem_cons_self ..⟩
    · obtain ⟨h1, b, h2⟩ := findR_some h
      exact ⟨h1, b, List.mem_cons_of_mem _ h2⟩
theorem findR_key {σ : List (Nat × Nat)} : ∀ {l : List (Nat × Box)} {seen : List Nat}, nodupR σ l seen = true → ∀ {id : Nat}, (∃ b, (id, b) ∈ l) → findR σ l (ren σ id) = some id
  | [], _, _, id, ⟨b, h⟩ => by cases h
  | p :: r, seen, h, id, hb => by
    unfold findR
    split
    · rename_i he
      exact congrArg some (nodupR_inj h p.1 id ⟨p.2, List.mem_cons_self ..⟩ hb he.symm)
    · rename_i he
      obtain ⟨b, hb⟩ := hb
      rcases List.mem_cons.1 hb with hh | hh
      · rw [← hh] at he
        exact (he rfl).elim
      · simp only [nodupR] at h
        cases hm : memN (ren σ p.1) seen <;> rw [hm] at h
        · exact findR_key h ⟨b, hh⟩
        · cases h

section
variable {σ : List (Nat × Nat)} {bc bx : List (Nat × Box)}

theorem reU_look (rest : List (Nat × Box)) : ∀ {l : List (Nat × Box)} {seen : List Nat}, nodupR σ l seen = true → ∀ j, lookB j (reU σ bc bx l ++ rest) = match findR σ l j with
    | some id => reB σ bc bx (verB (lookB j bc)) (verB (lookB id bx)) (rvB (lookB j bc)) (rvB (lookB id bx)) (lookB id l)
    | none => lookB j rest
  | [], _, _, j => rfl
  | p :: r, seen, h, j => by
    have h' := h
    simp only [nodupR] at h
    cases hm : memN (ren σ p.1) seen <;> rw [hm] at h
    · simp only [cond_false] at h
      rw [reU, List.cons_append, lookB_cons, findR]
      by_cases hj : j = ren σ p.1
      · rw [if_pos hj, if_pos hj]
        simp only [hj]
        rw [lookB_cons, if_pos rfl]
      · rw [if_neg hj, if_neg hj, reU_look rest h j]
        cases hf : findR σ r j with
        | none => rfl
        | some id =>
          obtain ⟨e1, b, e2⟩ := findR_some hf
          have hne : id ≠ p.1 := by
            rintro rfl
            exact hj e1
          simp only []
          rw [lookB_cons, if_neg hne]
    · cases h

theorem reB_live (vc v0 rc r0 : Nat) (b : Box) : live (reB σ bc bx vc v0 rc r0 b) = live b := by cases b <;> rfl

theorem renL_get : ∀ (vs : List AV) (j : Nat), (renL σ bc bx vs)[j]? = (vs[j]?).map (renA σ bc bx)
  | [], j => by simp [renL]
  | v :: r, j => by
    cases j with
    | zero => simp [renL]
    | succ j => simpa [renL] using renL_get r j
theorem renL_len : ∀ (vs : List AV), (renL σ bc bx vs).length = vs.length
  | [] => rfl
  | v :: r => by simp [renL, renL_len r]

/-- what the callee's values are to the caller -/
theorem RV.ren {w : World} {M M' : Nat → Prop} {β1 β' : Nat → Value} {lk1 lk' : Nat → Box} {v : Value} {av : AV} (hv : RV w M β1 lk1 v av) (hM : ∀ k, M' k → M k)
    (hl : ∀ id, lk1 id ≠ .dead → lk' (ren σ id) = reB σ bc bx (verB (lookB (ren σ id) bc)) (verB (lookB id bx)) (rvB (lookB (ren σ id) bc)) (rvB (lookB id bx)) (lk1 id) ∧ β' (ren σ id) = β1 id) : RV w M' β' lk' v (renA σ bc bx av) := by
  have hk : Kept w M w M' := fun k _ hn => ⟨rfl, fun hm => hn (hM k hm)⟩
  induction hv with
  | top v => simp only [renA]; exact .top v
  | c v d h => simp only [renA]; exact .c v d (h.keep hk)
  | ag cs ds hs h => simp only [renA]; exact .ag cs ds hs fun j d hd => (h j d hd).keep hk
  | tp vs avs hs h ih =>
    simp only [renA]
    refine .tp vs _ (by rw [renL_len]; exact hs) fun j av hj => ?_
    rw [renL_get] at hj
    cases ha : avs[j]? with
    | none => rw [ha] at hj; cases hj
    | some x =>
      rw [ha] at hj
      simp only [Option.map_some, Option.some.injEq] at hj
      subst hj
      exact ih j x ha
  | osl id ver v h1 h =>
    simp only [renA]
    cases hd : decide (verB (lookB id bx) ≤ ver) with
    | false => exact .top v
    | true =>
      simp only [decide_eq_true_eq] at hd
      refine .osl _ _ v h1 ?_
      have hne : lk1 id ≠ .dead := fun e => by rw [e] at h; exact h
      obtain ⟨e1, e2⟩ := hl id hne
      rw [e1, e2]
      cases hb : lk1 id with
      | dead => exact (hne hb).elim
      | cells cs => rw [hb] at h; exact h.elim
      | map kt et es => rw [hb] at h; exact h.elim
      | arr e n xs =>
        rw [hb] at h
        exact ⟨by have := h.1; omega, fun he => h.2 (by have := h.1; omega)⟩
      | frz n xs =>
        rw [hb] at h
        exact ⟨by have := h.1; omega, fun he => h.2 (by have := h.1; omega)⟩
      | nest e n r dt rows =>
        rw [hb] at h
        exact ⟨by have := h.1; omega, fun he => h.2 (by have := h.1; omega)⟩
  | bp id off g cs hl1 hb =>
    simp only [renA]
    obtain ⟨e1, e2⟩ := hl id (by rw [hl1]; exact fun e => by cases e)
    rw [hl1] at e1
    exact .bp _ off g _ e1 (e2.trans hb)
  | mp id g kt et es hl1 hb =>
    simp only [renA]
    obtain ⟨e1, e2⟩ := hl id (by rw [hl1]; exact fun e => by cases e)
    rw [hl1] at e1
    exact .mp _ g _ _ _ e1 (e2.trans hb)
  | op id ver i sz off v h1 h => simp only [renA]; exact .top v
  | agv cs vs hs h1 h ih => simp only [renA]; exact .top _
  | fsl id rv p v h1 h => simp only [renA]; exact .top v
  | fop id rv p j sz off v h1 h => simp only [renA]; exact .top v
  | csl id ver lo n sz v h1 h => simp only [renA]; exact .top v
  | cfl id rv p n v h1 h => simp only [renA]; exact .top v
  | zp T => simp only [renA]; exact .top _
  | ip ad ds cell hb hn hcell h =>
    simp only [renA]
    exact .ip ad ds cell hb (fun hm => hn (hM _ hm)) hcell fun j d hd => (h j d hd).keep hk
  | fn f caps cs hs h ih =>
    simp only [renA]
    refine .fn f caps _ (by rw [renL_len]; exact hs) fun j av hj => ?_
    rw [renL_get] at hj
    cases ha : cs[j]? with
    | none => rw [ha] at hj; cases hj
    | some x =>
      rw [ha] at hj
      simp only [Option.map_some, Option.some.injEq] at hj
      subst hj
      exact ih j x ha

theorem updTop_at : ∀ {l : Upd}, updTop l = true → ∀ p ∈ l, boxTop p.2 = true
  | [], _, p, h => by cases h
  | q :: r, h, p, hp => by
    simp only [updTop] at h
    cases hv : boxTop q.2 <;> rw [hv] at h
    · cases h
    · rcases List.mem_cons.1 hp with rfl | hp
      · exact hv
      · exact updTop_at h p hp
theorem reU_mem : ∀ {l : List (Nat × Box)} {seen : List Nat}, nodupR σ l seen = true → ∀ {id : Nat}, (∃ b, (id, b) ∈ l) → (ren σ id, reB σ bc bx (verB (lookB (ren σ id) bc)) (verB (lookB id bx)) (rvB (lookB (ren σ id) bc)) (rvB (lookB id bx)) (lookB id l)) ∈ reU σ bc bx l
  | [], _, _, id, ⟨b, h⟩ => by cases h
  | p :: r, seen, h, id, ⟨b, hb⟩ => by
    have h0 := h
    simp only [nodupR] at h
    cases hm : memN (ren σ p.1) seen <;> rw [hm] at h
    · simp only [cond_false] at h
      rw [reU, lookB_cons]
      by_cases hi : id = p.1
      · rw [if_pos hi, hi]; exact List.mem_cons_self ..
      · rw [if_neg hi]
        refine List.mem_cons_of_mem _ (reU_mem h ?_)
        rcases List.mem_cons.1 hb with hh | hh
        · rw [← hh] at hi; exact (hi rfl).elim
        · exact ⟨b, hh⟩
    · cases h

theorem NewL_at : ∀ {l : List (Nat × Box)}, NewL σ bc bx l → ∀ {id : Nat}, (∃ b, (id, b) ∈ l) → lookB id bx = .dead → lookB (ren σ id) bc = .dead
  | [], _, id, ⟨b, h⟩, _ => by cases h
  | p :: r, h, id, ⟨b, hb⟩, hd => by
    rcases List.mem_cons.1 hb with hh | hh
    · have h1 := h.1
      rw [← hh] at h1
      simp only [hd, New1] at h1
      exact h1
    · exact NewL_at h.2 ⟨b, hh⟩ hd
end

section
variable {X : Ctx} {s : S} {a : Act} {w : World} {β : Nat → Value}

theorem callM_old {f : Nat} {raw : List AV} {W : AV → Upd → S → Prop} {vals : Array Value} (hI : Inv X s a w β) (h : ∃ (args0 : List AV) (bx0 : List (Nat × Box)) (r : AV) (bx1 : List (Nat × Box)) (φ : List Nat) (σ : List (Nat × Nat)), OkM X.P X.E f args0 bx0 r bx1 ∧
    (FitL σ (frzB φ s.bx) bx0 raw args0 ∧ LeB σ ⟨s.fr, frzB φ s.bx⟩ bx0 bx0 ∧ nodupR σ bx0 [] = true ∧ nodupR σ bx1 [] = true ∧ NewL σ (frzB φ s.bx) bx0 bx1 ∧ updTop (reU σ (frzB φ s.bx) bx0 bx1) = true) ∧
    W (renA σ (frzB φ s.bx) bx0 r) (reU σ (frzB φ s.bx) bx0 bx1) ⟨s.fr, frzB φ s.bx⟩)
    (hraw : ∀ bx, Inv X ⟨s.fr, bx⟩ a w β → vals.size = raw.length ∧ ∀ j av, raw[j]? = some av → RV w (MM X (lookB · bx) β) β (lookB · bx) (vals.getD j undef) av) :
    ∃ r' u bc, W r' u ⟨s.fr, bc⟩ ∧ Callable X.P f ∧ Calls X.P f vals w fun e w' => ∃ v β', e = .returned v ∧ Inv X ⟨s.fr, u ++ bc⟩ a w' β' ∧ RV w' (MM X (lookB · (u ++ bc)) β') β' (lookB · (u ++ bc)) v r' := by
  obtain ⟨args0, bx0, r, bx1, φ, σ, ⟨hcall, hok⟩, ⟨hfit, hB, hN0, hN1, hnew, htop⟩, hW⟩ := h
  have h1 : Inv X ⟨s.fr, frzB φ s.bx⟩ a w β := hI.frzB φ
  generalize hbc : frzB φ s.bx = bc at hfit hB hnew htop hW h1
  refine ⟨_, _, bc, hW, hcall, ?_⟩
  obtain ⟨hvs, hvr⟩ := hraw bc h1
  obtain ⟨hlen, hat⟩ := FitL.at hfit
  have hlive := LeB.mm (s := s) hB
  let β0 : Nat → Value := fun id => β (ren σ id)
  let M : Nat → Prop := fun k => MM X (lookB · bc) β k ∧ ¬ extOf bx0 β0 k
  let Y : Ctx := X0 X.P X.E w M β0 bx0
  have hYM : ∀ k, MM Y (lookB · bx0) β0 k → MM X (lookB · bc) β k := fun k hk => by
    rcases hk with hk | ⟨id, hl, hb⟩
    · exact hk.1
    · exact .inr ⟨ren σ id, hlive id hl, hb⟩
  have hinj0 : ∀ i j k, live (lookB i bx0) = true → live (lookB j bx0) = true → Blk (β0 i) k → Blk (β0 j) k → i = j := fun i j k hi hj hbi hbj => by
    refine nodupR_inj hN0 i j (lookB_mem fun hd => ?_) (lookB_mem fun hd => ?_) (h1.inj _ _ k (hlive i hi) (hlive j hj) hbi hbj)
    · rw [hd] at hi; cases hi
    · rw [hd] at hj; cases hj
  have hface : Face Y w β0 bx0 := ⟨fun id => LeB.boxes (X := X) (s := ⟨s.fr, bc⟩) (s0 := ⟨[], bx0⟩) (Y := Y) rfl h1.box (fun id0 k hl hb => .inr ⟨id0, hl, hb⟩) hB hYM id, hinj0⟩
  have hc := hok w M β0 vals (fun k hk => ⟨h1.lt hk.1, hk.2⟩) hface (by rw [hvs]; exact hlen) (fun j av hj => by
    obtain ⟨av', ha, hf⟩ := hat j av hj
    exact hf.rv h1.frzV hYM (hvr j av' ha))
  refine hc.mono fun e w' hh => ?_
  obtain ⟨v, β1, rfl, hkeep, hface1, hturn, hrv⟩ := hh
  -- the new names
  let β' : Nat → Value := fun j => match findR σ bx1 j with | some id => β1 id | none => β j
  have hlook := fun j => reU_look (σ := σ) (bc := bc) (bx := bx0) bc hN1 j
  have hkey : ∀ id, lookB id bx1 ≠ .dead → findR σ bx1 (ren σ id) = some id := fun id hd => findR_key hN1 (lookB_mem hd)
  have hnd : ∀ id, lookB id bx0 ≠ .dead → lookB id bx1 ≠ .dead := fun id hd he => by
    have := hturn id
    rw [he] at this
    cases hb : lookB id bx0 with
    | dead => exact hd hb
    | cells cs => rw [hb] at this; obtain ⟨⟨_, h⟩, _⟩ := this; cases h
    | map kt et es => rw [hb] at this; obtain ⟨⟨_, _, _, h⟩, _⟩ := this; cases h
    | arr e n xs =>
      rw [hb] at this
      rcases this with ⟨_, _, _, h, _⟩ | ⟨_, _, h, _⟩ <;> cases h
    | frz n xs => rw [hb] at this; obtain ⟨⟨_, h⟩, _⟩ := this; cases h
    | nest e n r dt rows =>
      rw [hb] at this
      rcases this with ⟨_, _, _, _, _, h, _⟩ | ⟨_, _, h, _⟩ <;> cases h
  have hlk1 : ∀ id, lookB id bx1 ≠ .dead → lookB (ren σ id) (reU σ bc bx0 bx1 ++ bc) = reB σ bc bx0 (verB (lookB (ren σ id) bc)) (verB (lookB id bx0)) (rvB (lookB (ren σ id) bc)) (rvB (lookB id bx0)) (lookB id bx1) ∧ β' (ren σ id) = β1 id := fun id hd => by
    have hk := hkey id hd
    refine ⟨by rw [hlook, hk], ?_⟩
    show (match findR σ bx1 (ren σ id) with | some id => β1 id | none => β (ren σ id)) = β1 id
    rw [hk]
  have hlk2 : ∀ j, findR σ bx1 j = none → lookB j (reU σ bc bx0 bx1 ++ bc) = lookB j bc ∧ β' j = β j := fun j hn => by
    refine ⟨by rw [hlook, hn], ?_⟩
    show (match findR σ bx1 j with | some id => β1 id | none => β j) = β j
    rw [hn]
  have hextM : ∀ k, extOf bx0 β0 k → MM X (lookB · bc) β k := fun k ⟨id, hl, hb⟩ => .inr ⟨ren σ id, hlive id hl, hb⟩
  have hextO : ∀ k, extOf bx0 β0 k → k < w.heap.size ∧ X.own k := fun k ⟨id, hl, hb⟩ => (h1.box (ren σ id)).lt (hlive id hl) hb
  have hMM1 : ∀ k, MM X (lookB · (reU σ bc bx0 bx1 ++ bc)) β' k → MM Y (lookB · bx1) β1 k := fun k hk => by
    rcases hk with hk | ⟨j, hl, hb⟩
    · exact .inl ⟨.inl hk, fun he => Ctx.own_m0 h1.m0 (hextO k he).2 hk⟩
    · cases hf : findR σ bx1 j with
      | some id =>
        obtain ⟨rfl, hmem⟩ := findR_some hf
        have hl' : live (lookB (ren σ id) (reU σ bc bx0 bx1 ++ bc)) = true := hl
        rw [hlook, hf] at hl'
        simp only [reB_live] at hl'
        have hd : lookB id bx1 ≠ .dead := fun e => by rw [e] at hl'; cases hl'
        rw [(hlk1 id hd).2] at hb
        exact .inr ⟨id, hl', hb⟩
      | none =>
        obtain ⟨e1, e2⟩ := hlk2 j hf
        have hl' : live (lookB j bc) = true := by rw [← e1]; exact hl
        rw [e2] at hb
        refine .inl ⟨.inr ⟨j, hl', hb⟩, ?_⟩
        rintro ⟨id, hli, hbi⟩
        have : ren σ id = j := h1.inj _ _ k (hlive id hli) hl' hbi hb
        have hd1 := hnd id (fun e => by rw [e] at hli; cases hli)
        rw [← this, hkey id hd1] at hf
        cases hf
  have hYM1 : ∀ k, MM Y (lookB · bx1) β1 k → k < w.heap.size → MM X (lookB · bc) β k := fun k hk hlt => by
    rcases hk with hk | ⟨id, hl, hb⟩
    · exact hk.1
    · rcases ((hface1.box id).lt hl hb).2 with ho | ho
      · have : w.heap.size ≤ k := ho
        omega
      · exact hextM k ho
  have hheap : ∀ k, k < w.heap.size → ¬ extOf bx0 β0 k → w'.heap[k]? = w.heap[k]? := fun k hk hn => hkeep.block k hk hn
  have hsize : w.heap.size ≤ w'.heap.size := hkeep.size
  have hkept : Kept w (MM X (lookB · bc) β) w' (MM X (lookB · (reU σ bc bx0 bx1 ++ bc)) β') := fun k hk hn =>
    ⟨hheap k hk fun he => hn (hextM k he), fun hm => hn (hYM1 k (hMM1 k hm) hk)⟩
  have hturned : ∀ j, Turned (lookB j bc) (β j) (lookB j (reU σ bc bx0 bx1 ++ bc)) (β' j) := fun j => by
    cases hf : findR σ bx1 j with
    | none =>
      obtain ⟨e1, e2⟩ := hlk2 j hf
      rw [e1, e2]; exact Turned.refl _ _
    | some id =>
      obtain ⟨rfl, hmem⟩ := findR_some hf
      have ht := hturn id
      have hbeta : β' (ren σ id) = β1 id := by
        show (match findR σ bx1 (ren σ id) with | some id => β1 id | none => β (ren σ id)) = β1 id
        rw [hf]
      have hlk : lookB (ren σ id) (reU σ bc bx0 bx1 ++ bc) = reB σ bc bx0 (verB (lookB (ren σ id) bc)) (verB (lookB id bx0)) (rvB (lookB (ren σ id) bc)) (rvB (lookB id bx0)) (lookB id bx1) := by rw [hlook, hf]
      rw [hlk, hbeta]
      rcases LeB_at (s := ⟨s.fr, bc⟩) (s0 := ⟨[], bx0⟩) hB id with hd | hb
      · have : lookB (ren σ id) bc = .dead := NewL_at hnew hmem hd
        rw [this]; trivial
      · simp only [] at hb
        cases hb0 : lookB id bx0 with
        | dead =>
          have : lookB (ren σ id) bc = .dead := NewL_at hnew hmem hb0
          rw [this]; trivial
        | cells cs =>
          rw [hb0] at hb ht
          cases hbb : lookB (ren σ id) bc <;> rw [hbb] at hb <;> simp only [FitB] at hb <;> try (exact hb.elim)
          obtain ⟨⟨cs', e1⟩, e2⟩ := ht
          rw [e1]
          exact ⟨⟨_, rfl⟩, e2⟩
        | map kt et es =>
          rw [hb0] at hb ht
          cases hbb : lookB (ren σ id) bc <;> rw [hbb] at hb <;> simp only [FitB] at hb <;> try (exact hb.elim)
          obtain ⟨⟨kt', et', es', e1⟩, e2⟩ := ht
          rw [e1]
          exact ⟨⟨_, _, _, rfl⟩, e2⟩
        | arr e n xs =>
          rw [hb0] at hb ht
          cases hbb : lookB (ren σ id) bc <;> rw [hbb] at hb <;> simp only [FitB] at hb <;> try (exact hb.elim)
          obtain ⟨rfl, rfl⟩ := hb
          rcases ht with ⟨e', n', xs', e1, hn, hv⟩ | ⟨n', xs', e1, hn, hv⟩
          · rw [e1]
            exact .inl ⟨_, _, _, rfl, by simp only [verB]; omega, fun he => hv (by simp only [verB] at he; omega)⟩
          · rw [e1]
            exact .inr ⟨_, _, rfl, by simp only [verB]; omega, fun he => hv (by simp only [verB] at he; omega)⟩
        | frz n xs =>
          rw [hb0] at hb ht
          cases hbb : lookB (ren σ id) bc <;> rw [hbb] at hb <;> simp only [FitB] at hb <;> try (exact hb.elim)
          obtain ⟨⟨xs', e1⟩, e2⟩ := ht
          rw [e1]
          refine ⟨⟨xs', ?_⟩, e2⟩
          simp only [reB, verB]
          congr 1; omega
        | nest e n r dt rows =>
          rw [hb0] at hb ht
          cases hbb : lookB (ren σ id) bc <;> rw [hbb] at hb <;> simp only [FitB] at hb <;> try (exact hb.elim)
          rename_i nb rb dtb rowsb
          cases dtb <;> cases dt <;> simp only [FitB] at hb
          obtain ⟨rfl, rfl⟩ := hb
          rcases ht with ⟨e', n', r', dt', rows', e1, hn, ho, hr, hv⟩ | ⟨n', xs', e1, hn, ho⟩
          · rw [e1]
            exact .inl ⟨_, _, _, _, _, rfl, by simp only [verB]; omega, fun he => ho (by simp only [verB] at he; omega), by simp only [rvB]; omega, fun he => hv (by simp only [rvB] at he; omega)⟩
          · rw [e1]
            exact .inr ⟨_, _, rfl, by simp only [verB]; omega, fun he => ho (by simp only [verB] at he; omega)⟩
  have hownY : ∀ k, Y.own k → X.own k := fun k hk => by
    rcases hk with hk | hk
    · exact .inl (Nat.le_trans h1.keep.size hk)
    · exact (hextO k hk).2
  refine ⟨v, β', rfl, ⟨h1.df, h1.sz, ⟨hkeep.os.trans h1.keep.os, hkeep.tape.trans h1.keep.tape, hkeep.output.trans h1.keep.output, Nat.le_trans h1.keep.size hsize, fun k hk hx => ?_⟩, h1.m0, fun j => ?_, fun i j k hli hlj hbi hbj => ?_, fun i => (h1.fr i).keep hsize hkept hturned, fun id => (h1.pin id).trans (hturned id)⟩, hrv.ren hMM1 hlk1⟩
  · rw [hheap k (Nat.lt_of_lt_of_le hk h1.keep.size) fun he => ?_]
    · exact h1.keep.block k hk hx
    · rcases (hextO k he).2 with ho | ho
      · omega
      · exact hx ho
  · cases hf : findR σ bx1 j with
    | none =>
      obtain ⟨e1, e2⟩ := hlk2 j hf
      show BoxOK X w' _ _ _ j (lookB j (reU σ bc bx0 bx1 ++ bc))
      rw [e1]
      refine (h1.box j).keep e2 (fun k hl hb => hheap k ((h1.box j).lt hl hb).1 ?_) hsize hkept hturned
      rintro ⟨id, hli, hbi⟩
      have : ren σ id = j := h1.inj _ _ k (hlive id hli) hl hbi hb
      have hd1 := hnd id (fun e => by rw [e] at hli; cases hli)
      rw [← this, hkey id hd1] at hf
      cases hf
    | some id =>
      obtain ⟨rfl, hmem⟩ := findR_some hf
      have hlk : lookB (ren σ id) (reU σ bc bx0 bx1 ++ bc) = reB σ bc bx0 (verB (lookB (ren σ id) bc)) (verB (lookB id bx0)) (rvB (lookB (ren σ id) bc)) (rvB (lookB id bx0)) (lookB id bx1) := by rw [hlook, hf]
      have hbeta : β' (ren σ id) = β1 id := by
        show (match findR σ bx1 (ren σ id) with | some id => β1 id | none => β (ren σ id)) = β1 id
        rw [hf]
      have hbox := hface1.box id
      show BoxOK X w' _ _ _ (ren σ id) (lookB (ren σ id) (reU σ bc bx0 bx1 ++ bc))
      have htp := updTop_at htop _ (reU_mem (bc := bc) (bx := bx0) hN1 hmem)
      rw [hlk]
      have hk2 : Kept w' (MM Y (lookB · bx1) β1) w' (MM X (lookB · (reU σ bc bx0 bx1 ++ bc)) β') := fun k _ hn => ⟨rfl, fun hm => hn (hMM1 k hm)⟩
      cases hb1 : lookB id bx1 with
      | dead => trivial
      | cells cs =>
        rw [hb1] at hbox htp
        obtain ⟨g, el, conc, e1, e2, e3, e4, e5⟩ := hbox
        refine ⟨g, el, conc, hbeta.trans e1, hownY g e2, e3, by rw [renL_len]; exact e4, fun jj av hj => ?_⟩
        refine ⟨cellT_of (cellsTop_at htp jj av hj), ?_⟩
        rw [renL_get] at hj
        cases ha : cs[jj]? with
        | none => rw [ha] at hj; cases hj
        | some x =>
          rw [ha] at hj
          simp only [Option.map_some, Option.some.injEq] at hj
          subst hj
          exact (e5 jj x ha).2.ren hMM1 hlk1
      | arr e n xs =>
        rw [hb1] at hbox
        obtain ⟨te, flat, e1, e2, e3, e4, e5, e6⟩ := hbox
        exact ⟨te, flat, e1, e2, e3, by rw [hbeta]; exact e4, fun k hk => hownY k (e5 k (by rw [hbeta] at hk; exact hk)), fun i x j d hx hd => (e6 i x j d hx hd).keep hk2⟩
      | frz n xs =>
        rw [hb1] at hbox
        show Rp w' _ (outerV (β' (ren σ id))) (.sl xs)
        rw [hbeta]
        exact Rp.keep hbox hk2
      | nest e n r dt rows =>
        rw [hb1] at hbox
        obtain ⟨te, e', te', vs, cs, flat, hn⟩ := hbox
        exact ⟨te, e', te', vs, cs, flat, { hn with val := hbeta.trans hn.val, at_ := fun p r hp i x j d hx hd => (hn.at_ p r hp i x j d hx hd).keep hk2, own := fun k hk => hownY k (hn.own k (by rw [hbeta] at hk; exact hk)) }⟩
      | map kt et es =>
        rw [hb1] at hbox
        obtain ⟨g, ents, clock, e1, e2, e3, e4, e5⟩ := hbox
        exact ⟨g, ents, clock, hbeta.trans e1, hownY g e2, e3, e4, e5⟩
  · have hcase : ∀ j, live (lookB j (reU σ bc bx0 bx1 ++ bc)) = true → ∀ k, Blk (β' j) k → (∃ id, findR σ bx1 j = some id ∧ live (lookB id bx1) = true ∧ Blk (β1 id) k) ∨ (findR σ bx1 j = none ∧ live (lookB j bc) = true ∧ Blk (β j) k) := fun j hl k hb => by
      cases hf : findR σ bx1 j with
      | none =>
        obtain ⟨e1, e2⟩ := hlk2 j hf
        rw [e1] at hl
        rw [e2] at hb
        exact .inr ⟨rfl, hl, hb⟩
      | some id =>
        obtain ⟨rfl, hmem⟩ := findR_some hf
        rw [hlook, hf] at hl
        simp only [reB_live] at hl
        have hd : lookB id bx1 ≠ .dead := fun e => by rw [e] at hl; cases hl
        rw [(hlk1 id hd).2] at hb
        exact .inl ⟨id, rfl, hl, hb⟩
    have hmix : ∀ id j, live (lookB id bx1) = true → Blk (β1 id) k → findR σ bx1 j = none → live (lookB j bc) = true → Blk (β j) k → False := fun id j hl hb hf hlj hbj => by
      rcases ((hface1.box id).lt hl hb).2 with ho | ⟨id', hli, hbi⟩
      · have : w.heap.size ≤ k := ho
        have := ((h1.box j).lt hlj hbj).1
        omega
      · have : ren σ id' = j := h1.inj _ _ k (hlive id' hli) hlj hbi hbj
        have hd1 := hnd id' (fun e => by rw [e] at hli; cases hli)
        rw [← this, hkey id' hd1] at hf
        cases hf
    rcases hcase i hli k hbi with ⟨i', f1, l1, b1⟩ | ⟨f1, l1, b1⟩ <;> rcases hcase j hlj k hbj with ⟨j', f2, l2, b2⟩ | ⟨f2, l2, b2⟩
    · have : i' = j' := hface1.inj i' j' k l1 l2 b1 b2
      rw [(findR_some f1).1, (findR_some f2).1, this]
    · exact (hmix i' j l1 b1 f2 l2 b2).elim
    · exact (hmix j' i l2 b2 f1 l1 b1).elim
    · exact h1.inj i j k l1 l2 b1 b2


/-- the boxes are handed over for good: all that was known is forgotten -/
theorem callH_sound {f : Nat} {raw : List AV} {vals : Array Value} (hI : Inv X s a w β) (hpb : X.pb = []) {args0 : List AV} {bx0 : List (Nat × Box)} {r : AV} {bx1 : List (Nat × Box)} (φ : List Nat) (σ : List (Nat × Nat)) (h : OkH X.P X.E f args0 bx0 r bx1)
    (hfit : FitL σ (frzB φ s.bx) bx0 raw args0) (hB : LeB σ ⟨s.fr, frzB φ s.bx⟩ bx0 bx0) (hN0 : nodupR σ bx0 [] = true)
    (hraw : ∀ bx, Inv X ⟨s.fr, bx⟩ a w β → vals.size = raw.length ∧ ∀ j av, raw[j]? = some av → RV w (MM X (lookB · bx) β) β (lookB · bx) (vals.getD j undef) av) :
    Callable X.P f ∧ Calls X.P f vals w fun e w' => ∃ v β', e = .returned v ∧ Inv X ⟨[], bx1⟩ a w' β' ∧ RV w' (MM X (lookB · bx1) β') β' (lookB · bx1) v r := by
  obtain ⟨hcall, hok⟩ := h
  have h1 : Inv X ⟨s.fr, frzB φ s.bx⟩ a w β := hI.frzB φ
  generalize hbc : frzB φ s.bx = bc at hfit hB h1
  refine ⟨hcall, ?_⟩
  obtain ⟨hvs, hvr⟩ := hraw bc h1
  obtain ⟨hlen, hat⟩ := FitL.at hfit
  have hlive := LeB.mm (s := s) hB
  let β0 : Nat → Value := fun id => β (ren σ id)
  let M : Nat → Prop := fun k => MM X (lookB · bc) β k ∧ ¬ extOf bx0 β0 k
  let Y : Ctx := X0 X.P X.E w M β0 bx0
  have hYM : ∀ k, MM Y (lookB · bx0) β0 k → MM X (lookB · bc) β k := fun k hk => by
    rcases hk with hk | ⟨id, hl, hb⟩
    · exact hk.1
    · exact .inr ⟨ren σ id, hlive id hl, hb⟩
  have hinj0 : ∀ i j k, live (lookB i bx0) = true → live (lookB j bx0) = true → Blk (β0 i) k → Blk (β0 j) k → i = j := fun i j k hi hj hbi hbj => by
    refine nodupR_inj hN0 i j (lookB_mem fun hd => ?_) (lookB_mem fun hd => ?_) (h1.inj _ _ k (hlive i hi) (hlive j hj) hbi hbj)
    · rw [hd] at hi; cases hi
    · rw [hd] at hj; cases hj
  have hface : Face Y w β0 bx0 := ⟨fun id => LeB.boxes (X := X) (s := ⟨s.fr, bc⟩) (s0 := ⟨[], bx0⟩) (Y := Y) rfl h1.box (fun id0 k hl hb => .inr ⟨id0, hl, hb⟩) hB hYM id, hinj0⟩
  have hc := hok w M β0 vals (fun k hk => ⟨h1.lt hk.1, hk.2⟩) hface (by rw [hvs]; exact hlen) (fun j av hj => by
    obtain ⟨av', ha, hf⟩ := hat j av hj
    exact hf.rv h1.frzV hYM (hvr j av' ha))
  refine hc.mono fun e w' hh => ?_
  obtain ⟨v, β1, rfl, hkeep, hface1, hrv⟩ := hh
  have hextO : ∀ k, extOf bx0 β0 k → k < w.heap.size ∧ X.own k := fun k ⟨id, hl, hb⟩ => (h1.box (ren σ id)).lt (hlive id hl) hb
  have hMM1 : ∀ k, MM X (lookB · bx1) β1 k → MM Y (lookB · bx1) β1 k := fun k hk => by
    rcases hk with hk | hk
    · exact .inl ⟨.inl hk, fun he => Ctx.own_m0 h1.m0 (hextO k he).2 hk⟩
    · exact .inr hk
  have hownY : ∀ k, Y.own k → X.own k := fun k hk => by
    rcases hk with hk | hk
    · exact .inl (Nat.le_trans h1.keep.size hk)
    · exact (hextO k hk).2
  have hk2 : Kept w' (MM Y (lookB · bx1) β1) w' (MM X (lookB · bx1) β1) := fun k _ hn => ⟨rfl, fun hm => hn (hMM1 k hm)⟩
  have hKX : Keep X w' := ⟨hkeep.os.trans h1.keep.os, hkeep.tape.trans h1.keep.tape, hkeep.output.trans h1.keep.output, Nat.le_trans h1.keep.size hkeep.size, fun k hk hx => by
    have hlt := Nat.lt_of_lt_of_le hk h1.keep.size
    rw [hkeep.block k hlt fun he => ?_]
    · exact h1.keep.block k hk hx
    · rcases (hextO k he).2 with ho | ho
      · omega
      · exact hx ho⟩
  refine ⟨v, β1, rfl, ⟨h1.df, h1.sz, hKX, h1.m0, fun j => ?_, hface1.inj, fun i => .top _, fun id => by rw [hpb]; trivial⟩, hrv.keep (Nat.le_refl _) hk2 fun _ => Turned.refl _ _⟩
  have hb := BoxOK.ctx (X := Y) (Y := X) (hface1.box j) rfl fun k hl hb => hownY k ((hface1.box j).lt hl hb).2
  exact hb.keep rfl (fun _ _ _ => rfl) (Nat.le_refl _) hk2 fun _ => Turned.refl _ _

theorem callM_sound {f : Nat} {raw : List AV} {W : AV → Upd → S → Prop} {vals : Array Value} (hI : Inv X s a w β) (h : CallMVC X.P X.E X.pb f raw W s)
    (hraw : ∀ bx, Inv X ⟨s.fr, bx⟩ a w β → vals.size = raw.length ∧ ∀ j av, raw[j]? = some av → RV w (MM X (lookB · bx) β) β (lookB · bx) (vals.getD j undef) av) :
    ∃ r' u s1, W r' u s1 ∧ Callable X.P f ∧ Calls X.P f vals w fun e w' => ∃ v β', e = .returned v ∧ Inv X ⟨s1.fr, u ++ s1.bx⟩ a w' β' ∧ RV w' (MM X (lookB · (u ++ s1.bx)) β') β' (lookB · (u ++ s1.bx)) v r' := by
  rcases h with h | ⟨hpb, args0, bx0, r, bx1, φ, σ, h, ⟨h1, h2, h3, _⟩, hW⟩
  · obtain ⟨r', u, bc, hW, h⟩ := callM_old hI h hraw
    exact ⟨r', u, ⟨s.fr, bc⟩, hW, h⟩
  · have h := callH_sound hI hpb φ σ h h1 h2 h3 hraw
    refine ⟨r, bx1, ⟨[], []⟩, hW, ?_⟩
    rw [show bx1 ++ (⟨[], []⟩ : S).bx = bx1 from List.append_nil _]
    exact h

end
end Go.Vx
end

section
set_option linter.unusedVariables false
set_option linter.unusedSimpArgs false
namespace Go.Vx
open Go Go.RowKit

/-! ### a region in a function's frame -/
section
variable {r : Option Nat} {n : Nat} {P : Program} {ops : Array Oper} {Q Q0 : Exit → Act → World → Prop}

theorem oper_inP {o : Oper} {a : Act} {w : World} {K : Act → World → Prop} (hd : r = none ∨ notDefer o.op = true) (hQ : ∀ e a w, Q0 e a w → e = .normal ∨ ∃ ch, e = .panic ch ∧ Q (.panic ch) a w) (h : o.wp P a w K Q0) : o.wpIn (fenceR r) n P a w K Q := by
  refine ⟨fun _ _ => trivial, ?_⟩
  have e : o.semAt (fenceR r).round a.eval = execOp a.eval o := by
    rcases hd with rfl | hd
    · rfl
    · exact Oper.semAt_eq _ _ _ (notDefer_ne hd)
  have hp : ∀ ch a w, Q0 (.panic ch) a w → Q (.panic ch) a w := fun ch a w h => by
    rcases hQ _ _ _ h with h | ⟨ch', h1, h2⟩
    · cases h
    · injection h1 with h1
      rw [h1]; exact h2
  rw [e]
  unfold Oper.wp at h
  generalize (execOp a.eval o).run P w = res at h
  cases res with
  | ok x w' =>
    cases x <;> simp only [Oper.upon] at h <;> try (exact h.elim)
    case value v => exact h
    case skip => exact h
    case defer d => exact h
    case enter f args =>
      refine ⟨noDepth, callsR (h.mono fun e w'' he => ?_)⟩
      cases e with
      | returned v => exact he
      | panicked chain => exact hp _ _ _ he
      | outgrown =>
        obtain ⟨_, _, he⟩ := he
        rcases hQ _ _ _ he with h | ⟨_, h, _⟩ <;> cases h
    case row row args =>
      refine ⟨noDepth, fun c cs _ => ?_⟩
      obtain ⟨v, w'', hr, hs⟩ := h c cs
      exact ⟨v, w'', hr, stepsIn_wide.2 hs⟩
  | halt x w' =>
    cases x <;> simp only [Oper.upon] at h <;> try (exact h.elim)
    exact hp _ _ _ h

theorem op_inP {i : Nat} {a : Act} {w : World} {K : Act → World → Prop} (hd : r = none ∨ ∀ o ∈ ops.toList, notDefer o.op = true) (hQ : ∀ e a w, Q0 e a w → e = .normal ∨ ∃ ch, e = .panic ch ∧ Q (.panic ch) a w) (h : wpOp P ops Q0 i K a w) : wpOpIn (fenceR r) n P ops Q i K a w := by
  unfold wpOp at h
  unfold wpOpIn
  cases ho : ops[i]? with
  | none => rw [ho] at h; exact h
  | some o =>
    rw [ho] at h
    simp only [] at h ⊢
    have hd' : r = none ∨ notDefer o.op = true := hd.imp id fun hd => hd o (List.mem_of_getElem? (by rw [Array.getElem?_toList]; exact ho))
    split
    · rename_i hw
      rw [if_pos hw] at h
      rcases h with h | ⟨_, _, _, h⟩
      · exact oper_inP hd' hQ h
      · rcases hQ _ _ _ h with h | ⟨_, h, _⟩ <;> cases h
    · rename_i hw
      rw [if_neg hw] at h
      exact ⟨fun _ _ => trivial, h⟩

theorem ops_inP (hd : r = none ∨ ∀ o ∈ ops.toList, notDefer o.op = true) (hQ : ∀ e a w, Q0 e a w → e = .normal ∨ ∃ ch, e = .panic ch ∧ Q (.panic ch) a w) (hN : ∀ a w, Q0 .normal a w → Q .normal a w) : ∀ (l : List Nat) (a : Act) (w : World), wpOps P ops Q0 l a w → wpOpsIn (fenceR r) n P ops Q l a w
  | [], a, w, h => hN a w h
  | i :: l, a, w, h => by
    rw [wpOps_cons] at h
    rw [wpOpsIn_cons]
    exact wpOpIn_mono (fun a w h => ops_inP hd hQ hN l a w h) (op_inP hd hQ h)

/-- a part of the operations that ends as it should, then the rest -/
theorem oper_cut {o : Oper} {a : Act} {w : World} {K : Act → World → Prop} (hQ : ∀ e a w, Q0 e a w → e = .normal) (h : o.wp P a w K Q0) : o.wp P a w K Q := by
  unfold Oper.wp at *
  generalize (execOp a.eval o).run P w = res at *
  cases res with
  | ok x w' =>
    cases x <;> simp only [Oper.upon] at h ⊢ <;> try (exact h)
    case enter f args =>
      refine h.mono fun e w'' he => ?_
      cases e with
      | returned v => exact he
      | panicked chain => have := hQ _ _ _ he; cases this
      | outgrown => obtain ⟨_, _, he⟩ := he; have := hQ _ _ _ he; cases this
  | halt x w' =>
    cases x <;> simp only [Oper.upon] at h ⊢ <;> try (exact h)
    have := hQ _ _ _ h
    cases this
theorem op_cut {i : Nat} {a : Act} {w : World} {K : Act → World → Prop} (hQ : ∀ e a w, Q0 e a w → e = .normal) (h : wpOp P ops Q0 i K a w) : wpOp P ops Q i K a w := by
  unfold wpOp at *
  cases ho : ops[i]? with
  | none => rw [ho] at h; exact h
  | some o =>
    rw [ho] at h
    simp only [] at h ⊢
    split
    · rename_i hw
      rw [if_pos hw] at h
      rcases h with h | ⟨_, _, _, h⟩
      · exact .inl (oper_cut hQ h)
      · have := hQ _ _ _ h; cases this
    · rename_i hw
      rw [if_neg hw] at h
      exact h
theorem ops_cut {l2 : List Nat} (hQ : ∀ e a w, Q0 e a w → e = .normal) (hN : ∀ a w, Q0 .normal a w → wpOps P ops Q l2 a w) : ∀ (l : List Nat) (a : Act) (w : World), wpOps P ops Q0 l a w → wpOps P ops Q (l ++ l2) a w
  | [], a, w, h => hN a w h
  | i :: l, a, w, h => by
    rw [wpOps_cons] at h
    rw [List.cons_append, wpOps_cons]
    exact wpOp_mono (fun a w h => ops_cut hQ hN l a w h) (op_cut hQ h)
theorem ops_mono (hN : ∀ e a w, Q0 e a w → e = .normal ∧ Q .normal a w) (l : List Nat) (a : Act) (w : World) (h : wpOps P ops Q0 l a w) : wpOps P ops Q l a w := by
  have := ops_cut (Q := Q) (l2 := []) (fun e a w h => (hN e a w h).1) (fun a w h => (hN _ a w h).2) l a w h
  rwa [List.append_nil] at this
end

section
variable {X : Ctx} {s : S} {a : Act} {w : World} {β : Nat → Value}

theorem keysP_mem {σ : List (Nat × Nat)} : ∀ {l : List (Nat × Box)} {id : Nat}, lookB id l ≠ .dead → memN (ren σ id) (keysR σ l) = true
  | [], id, h => (h rfl).elim
  | p :: r, id, h => by
    rw [keysR, memN]
    by_cases hi : id = p.1
    · subst hi
      rw [show (ren σ p.1 == ren σ p.1) = true from by simp]; rfl
    · rw [lookB_cons, if_neg hi] at h
      cases hh : (ren σ id == ren σ p.1) with
      | true => rfl
      | false => exact keysP_mem h
theorem KeptP_at {hs : List Nat} {bx : List (Nat × Box)} : ∀ {kb : List (Nat × Box)}, KeptP hs bx kb → ∀ id, lookB id kb = .dead ∨ (lookB id bx = lookB id kb ∧ plnB (lookB id kb) = true ∧ memN id hs = false)
  | [], _, id => .inl rfl
  | p :: r, h, id => by
    rw [lookB_cons]
    by_cases hi : id = p.1
    · rw [if_pos hi, hi]; exact .inr h.1
    · rw [if_neg hi]; exact KeptP_at h.2 id

theorem KeptF_at {fr : List (Nat × AV)} {kb : List (Nat × Box)} : ∀ {kf : List (Nat × AV)}, KeptF fr kb kf → ∀ i, look i kf = .top ∨ (look i fr = look i kf ∧ bpK kb (look i kf) = true)
  | [], _, i => .inl rfl
  | p :: r, h, i => by
    rw [look_cons]
    by_cases hi : i = p.1
    · rw [if_pos hi, hi]; exact .inr h.1
    · rw [if_neg hi]; exact KeptF_at h.2 i

theorem PinK_at {kb : List (Nat × Box)} : ∀ {pb : List (Nat × Box)}, PinK kb pb → ∀ id, lookB id pb = .dead ∨ plnL (lookB id kb) = true
  | [], _, id => .inl rfl
  | p :: r, h, id => by
    rw [lookB_cons]
    by_cases hi : id = p.1
    · rw [hi]; exact .inr h.1
    · rw [if_neg hi]; exact PinK_at h.2 id

/-- a call that panics: plain cells are kept -/
theorem callP_sound {f : Nat} {raw : List AV} {vals : Array Value} (hI : Inv X s a w β) {args0 : List AV} {bx0 : List (Nat × Box)} {ch : List PanicEntry} (φ : List Nat) (σ : List (Nat × Nat)) (kf : List (Nat × AV)) (kb : List (Nat × Box)) (h : OkP X.P X.E f args0 bx0 ch)
    (hfit : FitL σ (frzB φ s.bx) bx0 raw args0) (hB : LeB σ ⟨s.fr, frzB φ s.bx⟩ bx0 bx0) (hN0 : nodupR σ bx0 [] = true) (hkb : KeptP (keysR σ bx0) (frzB φ s.bx) kb) (hkf : KeptF s.fr kb kf) (hpk : PinK kb X.pb)
    (hraw : ∀ bx, Inv X ⟨s.fr, bx⟩ a w β → vals.size = raw.length ∧ ∀ j av, raw[j]? = some av → RV w (MM X (lookB · bx) β) β (lookB · bx) (vals.getD j undef) av) :
    Callable X.P f ∧ Calls X.P f vals w fun e w' => e = .panicked ch ∧ Inv X ⟨kf, kb⟩ a w' β := by
  obtain ⟨hcall, hok⟩ := h
  have h1 : Inv X ⟨s.fr, frzB φ s.bx⟩ a w β := hI.frzB φ
  generalize hbc : frzB φ s.bx = bc at hfit hB h1 hkb
  refine ⟨hcall, ?_⟩
  obtain ⟨hvs, hvr⟩ := hraw bc h1
  obtain ⟨hlen, hat⟩ := FitL.at hfit
  have hlive := LeB.mm (s := s) hB
  let β0 : Nat → Value := fun id => β (ren σ id)
  let M : Nat → Prop := fun k => MM X (lookB · bc) β k ∧ ¬ extOf bx0 β0 k
  let Y : Ctx := X0 X.P X.E w M β0 bx0
  have hYM : ∀ k, MM Y (lookB · bx0) β0 k → MM X (lookB · bc) β k := fun k hk => by
    rcases hk with hk | ⟨id, hl, hb⟩
    · exact hk.1
    · exact .inr ⟨ren σ id, hlive id hl, hb⟩
  have hinj0 : ∀ i j k, live (lookB i bx0) = true → live (lookB j bx0) = true → Blk (β0 i) k → Blk (β0 j) k → i = j := fun i j k hi hj hbi hbj => by
    refine nodupR_inj hN0 i j (lookB_mem fun hd => ?_) (lookB_mem fun hd => ?_) (h1.inj _ _ k (hlive i hi) (hlive j hj) hbi hbj)
    · rw [hd] at hi; cases hi
    · rw [hd] at hj; cases hj
  have hface : Face Y w β0 bx0 := ⟨fun id => LeB.boxes (X := X) (s := ⟨s.fr, bc⟩) (s0 := ⟨[], bx0⟩) (Y := Y) rfl h1.box (fun id0 k hl hb => .inr ⟨id0, hl, hb⟩) hB hYM id, hinj0⟩
  have hc := hok w M β0 vals (fun k hk => ⟨h1.lt hk.1, hk.2⟩) hface (by rw [hvs]; exact hlen) (fun j av hj => by
    obtain ⟨av', ha, hf⟩ := hat j av hj
    exact hf.rv h1.frzV hYM (hvr j av' ha))
  refine hc.mono fun e w' hh => ?_
  obtain ⟨rfl, hkeep⟩ := hh
  have hextO : ∀ k, extOf bx0 β0 k → k < w.heap.size ∧ X.own k := fun k ⟨id, hl, hb⟩ => (h1.box (ren σ id)).lt (hlive id hl) hb
  have hKX : Keep X w' := ⟨hkeep.os.trans h1.keep.os, hkeep.tape.trans h1.keep.tape, hkeep.output.trans h1.keep.output, Nat.le_trans h1.keep.size hkeep.size, fun k hk hx => by
    have hlt := Nat.lt_of_lt_of_le hk h1.keep.size
    rw [hkeep.block k hlt fun he => ?_]
    · exact h1.keep.block k hk hx
    · rcases (hextO k he).2 with ho | ho
      · omega
      · exact hx ho⟩
  have hat2 := KeptP_at hkb
  have hold : ∀ id, live (lookB id kb) = true → lookB id bc = lookB id kb ∧ plnB (lookB id kb) = true ∧ memN id (keysR σ bx0) = false := fun id hl => by
    rcases hat2 id with h | h
    · rw [h] at hl; cases hl
    · exact h
  refine ⟨rfl, h1.df, h1.sz, hKX, h1.m0, fun j => ?_, fun i j k hi hj hbi hbj => h1.inj i j k (by rw [(hold i hi).1]; exact hi) (by rw [(hold j hj).1]; exact hj) hbi hbj, fun i => ?_, fun id => ?_⟩
  · show BoxOK X w' _ _ _ j (lookB j kb)
    rcases hat2 j with hd | ⟨e1, e2, e3⟩
    · rw [hd]; trivial
    · have hb := h1.box j
      have hb : BoxOK X w (MM X (lookB · bc) β) β (lookB · bc) j (lookB j bc) := hb
      rw [e1] at hb
      cases hk : lookB j kb with
      | dead => trivial
      | arr e v xs => rw [hk] at e2; cases e2
      | frz v xs => rw [hk] at e2; cases e2
      | map kt et es => rw [hk] at e2; cases e2
      | nest e v r dt rows => rw [hk] at e2; cases e2
      | cells cs =>
        rw [hk] at hb e2
        obtain ⟨g, el, conc, g1, g2, g3, g4, g5⟩ := hb
        have hlt : g < w.heap.size := (Array.getElem?_eq_some_iff.1 g3).1
        have hne : ¬ extOf bx0 β0 g := fun ⟨id, hl, hbk⟩ => by
          have hj : live (lookB j bc) = true := by rw [e1, hk]; rfl
          have := h1.inj (ren σ id) j g (hlive id hl) hj hbk (by rw [g1]; rfl)
          have hm := keysP_mem (σ := σ) (l := bx0) (id := id) (fun e => by rw [e] at hl; cases hl)
          rw [this, e3] at hm
          cases hm
        refine ⟨g, el, conc, g1, g2, by rw [hkeep.block g hlt hne]; exact g3, g4, fun i av hav => ⟨(g5 i av hav).1, ?_⟩⟩
        have hpl : plnC av = true := List.all_eq_true.1 e2 av (List.mem_of_getElem? hav)
        have hv := (g5 i av hav).2
        unfold plnC at hpl
        split at hpl
        · generalize conc.getD i undef = vv at hv ⊢
          cases hv.to_c with
          | sc _ h => exact .c _ _ (.sc _ h)
        · cases hpl
  · show RV w' _ β (lookB · kb) (a.tmps.getD i undef) (look i kf)
    have hfr := h1.fr i
    rcases KeptF_at hkf i with hd | ⟨e1, e2⟩
    · rw [hd]; exact .top _
    · have hfr : RV w _ β (lookB · bc) (a.tmps.getD i undef) (look i s.fr) := hfr
      rw [e1] at hfr
      cases hk : look i kf with
      | bp id off =>
        rw [hk] at hfr e2
        have e2 : plnL (lookB id kb) = true := e2
        cases hb : lookB id kb with
        | cells cs =>
          have hb2 := (hold id (by rw [hb]; rfl)).1
          generalize a.tmps.getD i undef = vv at hfr
          cases hfr with
          | bp _ _ g cs' hl hbt => exact .bp id off g cs hb hbt
        | dead => rw [hb] at e2; cases e2
        | arr e v xs => rw [hb] at e2; cases e2
        | frz v xs => rw [hb] at e2; cases e2
        | map kt et es => rw [hb] at e2; cases e2
        | nest e v r dt rows => rw [hb] at e2; cases e2
      | _ => rw [hk] at e2; cases e2
  · have hpin := h1.pin id
    have hpin : Turned (lookB id X.pb) (X.pv id) (lookB id bc) (β id) := hpin
    show Turned (lookB id X.pb) (X.pv id) (lookB id kb) (β id)
    rcases PinK_at hpk id with hd | hp
    · rw [hd]; trivial
    · have : live (lookB id kb) = true := by
        cases hb : lookB id kb <;> rw [hb] at hp <;> first | rfl | cases hp
      rw [← (hold id this).1]; exact hpin
end
end Go.Vx
end

section
set_option linter.unusedVariables false
namespace Go.Vx
open Go Go.RowKit

/-- what holds between two rounds: X' is the caller's context then, 'it' are the iterator's blocks, D and l those of the loop -/
structure JI (X : Ctx) (w1 : World) (M it : Nat → Prop) (a : Act) (D l : Nat) (rec : Loop) (s : S) (W : World) (β : Nat → Value) (X' : Ctx) : Prop where
  inv : Inv X' s a W β
  later : Later X X'
  ds : X'.ds = X.ds
  itM : ∀ b, it b → X'.M0 b ∧ b ≠ D ∧ b ≠ l ∧ b ∉ X.ds ∧ X.own b
  dM : X'.M0 D ∧ X'.M0 l ∧ D ≠ l ∧ D ∉ X.ds ∧ l ∉ X.ds ∧ X.own D ∧ X.own l ∧ M l
  dat : W.heap[D]? = some (.deferred (some []))
  lat : W.heap[l]? = some (.loop rec)
  old : ∀ b, X'.own b → w1.heap.size ≤ b ∨ M b
  size : w1.heap.size ≤ W.heap.size

section
variable {X X' : Ctx} {w1 W W' : World} {M it it' : Nat → Prop} {a : Act} {D l : Nat} {rec rec' : Loop} {s : S} {β : Nat → Value}

theorem JI.move (h : JI X w1 M it a D l rec s W β X') {C : Nat → Prop} (hC : ∀ b, C b → X'.M0 b ∧ b ≠ D ∧ b ∉ X.ds ∧ X.own b) (h1 : W'.os = W.os) (h2 : W'.tape = W.tape) (h3 : W'.output = W.output) (hsz : W.heap.size ≤ W'.heap.size)
    (hsame : ∀ b, b < W.heap.size → ¬ C b → W'.heap[b]? = W.heap[b]?) (hlat : W'.heap[l]? = some (.loop rec')) (hit : ∀ b, it' b → it b ∨ (W.heap.size ≤ b ∧ b < W'.heap.size)) : JI X w1 M it' a D l rec' s W' β (X'.past W W') := by
  have hltD : D < W.heap.size := (Array.getElem?_eq_some_iff.1 h.dat).1
  have hltl : l < W.heap.size := (Array.getElem?_eq_some_iff.1 h.lat).1
  have hXW := h.later.world h.inv.keep
  refine ⟨h.inv.past (fun b hb => ⟨(hC b hb).1, by rw [h.ds]; exact (hC b hb).2.2.1⟩) hsz hsame, ?_, h.ds, fun b hb => ?_, ⟨.inl h.dM.1, .inl h.dM.2.1, h.dM.2.2⟩, ?_, hlat, fun b hb => h.old b (Ctx.past_own h.inv.keep hsz b hb), Nat.le_trans h.size hsz⟩
  · refine ⟨h.later.P, h.later.E, h.later.n, h.later.pb, h.later.pv, ⟨h1.trans hXW.os, h2.trans hXW.tape, h3.trans hXW.output, Nat.le_trans hXW.size hsz, fun k g1 g2 => ?_⟩, fun k hk => h.later.own k (Ctx.past_own h.inv.keep hsz k hk), fun k hk => .inl (h.later.m0 k hk), fun k hk => ?_, fun D' hD' => h.later.ds D' hD', h.later.dt⟩
    · show W'.heap[k]? = _
      rw [hsame k (Nat.lt_of_lt_of_le g1 hXW.size) fun hc => Ctx.not_own' g1 g2 (hC k hc).2.2.2]
      exact hXW.block k g1 g2
    · rcases hk with hk | hk
      · exact h.later.new k hk
      · exact .inr (.inl (Nat.le_trans hXW.size hk.1))
  · rcases hit b hb with hb | hb
    · exact ⟨.inl (h.itM b hb).1, (h.itM b hb).2⟩
    · refine ⟨.inr hb, by omega, by omega, fun hd => ?_, .inl (Nat.le_trans hXW.size hb.1)⟩
      rw [← h.ds] at hd
      have := (h.inv.m0 b (h.inv.df.2.2 b hd).1).1
      have := h.inv.keep.size
      omega
  · rw [hsame D hltD fun hc => (hC D hc).2.1 rfl]
    exact h.dat

theorem JI.stable (h : JI X w1 M it a D l rec s W β X') (h1 : W'.os = W.os) (h2 : W'.tape = W.tape) (h3 : W'.output = W.output) (hsz : W.heap.size ≤ W'.heap.size)
    (hsame : ∀ b, b < W.heap.size → ¬ it b → W'.heap[b]? = W.heap[b]?) (hit : ∀ b, it' b → it b ∨ (W.heap.size ≤ b ∧ b < W'.heap.size)) : JI X w1 M it' a D l rec s W' β (X'.past W W') :=
  h.move (fun b hb => ⟨(h.itM b hb).1, (h.itM b hb).2.1, (h.itM b hb).2.2.2⟩) h1 h2 h3 hsz hsame ((hsame l (Array.getElem?_eq_some_iff.1 h.lat).1 fun hc => (h.itM l hc).2.2.1 rfl).trans h.lat) hit

theorem JI.put (h : JI X w1 M it a D l rec s W β X') (rec' : Loop) : JI X w1 M it a D l rec' s (W.putObj l (.loop rec')) β (X'.past W (W.putObj l (.loop rec'))) :=
  h.move (C := fun b => b = l) (fun b hb => by subst hb; exact ⟨h.dM.2.1, fun e => h.dM.2.2.1 e.symm, h.dM.2.2.2.2.1, h.dM.2.2.2.2.2.2.1⟩) rfl rfl rfl (by rw [World.putObj_size]; exact Nat.le_refl _) (fun b _ hb => World.putObj_heap_other hb)
    (World.putObj_heap_same (Array.getElem?_eq_some_iff.1 h.lat).1) fun b hb => .inl hb

theorem JI.enter (hE : EnvOK X.P X.E) (h : JI X w1 M it a D l rec s W β X') {s' : S} (he : Enter X.E X.pb s s') : ∃ β', JI X w1 M it a D l rec s' W β' X' := by
  obtain ⟨β', hI⟩ := Enter.inv (X := X') (by rw [h.later.P, h.later.E]; exact hE) (by rw [h.later.E, h.later.pb]; exact he) h.inv
  exact ⟨β', { h with inv := hI }⟩

/-- the context of a round -/
def Ctx.round (X' : Ctx) (W2 : World) (bx : List (Nat × Box)) (β : Nat → Value) : Ctx := { X' with w0 := W2, ext := extOf bx β, pb := bx, pv := β, ds := [], dt := [] }

theorem JI.begin (h : JI X w1 M it a D l rec s W β X') (rec' : Loop) : Inv (X'.round (W.putObj l (.loop rec')) s.bx β) s ⟨a.tmps, []⟩ (W.putObj l (.loop rec')) β := by
  have hown : ∀ id k, live (lookB id s.bx) = true → Blk (β id) k → k < W.heap.size ∧ X'.own k ∧ k ≠ l := fun id k hl hb => by
    obtain ⟨g1, g2⟩ := (h.inv.box id).lt hl hb
    exact ⟨g1, g2, fun e => Ctx.own_m0 h.inv.m0 g2 (e ▸ h.dM.2.1)⟩
  refine h.inv.moved (Y := X'.round (W.putObj l (.loop rec')) s.bx β) ⟨rfl, by rw [World.putObj_size]; exact Nat.le_refl _, fun k hk hn => ⟨World.putObj_heap_other fun e => hn (.inl (e ▸ h.dM.2.1)), fun hm => hn hm⟩, fun id k hl hb => ?_⟩ ⟨rfl, List.nodup_nil, fun D' hD' => by cases hD'⟩ rfl rfl (Keep.refl (X'.round (W.putObj l (.loop rec')) s.bx β)) (fun k hk => ?_) fun id => Turned.refl _ _
  · obtain ⟨g1, g2, g3⟩ := hown id k hl hb
    exact ⟨.inr ⟨id, hl, hb⟩, World.putObj_heap_other g3⟩
  · refine ⟨?_, fun ⟨id, hl, hb⟩ => Ctx.own_m0 h.inv.m0 (hown id k hl hb).2.1 hk⟩
    show k < (W.putObj l (.loop rec')).heap.size
    rw [World.putObj_size]
    exact Nat.lt_of_lt_of_le (h.inv.m0 k hk).1 h.inv.keep.size

theorem JI.finish (h : JI X w1 M it a D l rec s W β X') (rec2 rec3 : Loop) {Xe : Ctx} {s3 : S} {a3 : Act} {W3 : World} {β3 : Nat → Value} (hL : Later (X'.round (W.putObj l (.loop rec2)) s.bx β) Xe) (hI : Inv Xe s3 a3 W3 β3) :
    W3.heap[l]? = some (.loop rec2) ∧ W.heap.size ≤ (W3.putObj l (.loop rec3)).heap.size ∧ (∀ b, b < W.heap.size → (it b ∨ (b < w1.heap.size ∧ ¬ M b)) → (W3.putObj l (.loop rec3)).heap[b]? = W.heap[b]?) ∧
      ∃ Xf, JI X w1 M it a D l rec3 ⟨s.fr, s3.bx⟩ (W3.putObj l (.loop rec3)) β3 Xf := by
  have hltl : l < W.heap.size := (Array.getElem?_eq_some_iff.1 h.lat).1
  have hltD : D < W.heap.size := (Array.getElem?_eq_some_iff.1 h.dat).1
  have hK := hL.world hI.keep
  have hKsz : W.heap.size ≤ W3.heap.size := by
    have := hK.size
    have e : (X'.round (W.putObj l (.loop rec2)) s.bx β).w0.heap.size = W.heap.size := World.putObj_size
    omega
  have hext : ∀ k, extOf s.bx β k → k < W.heap.size ∧ X'.own k := fun k ⟨id, hl, hb⟩ => (h.inv.box id).lt hl hb
  have hsame2 : ∀ b, b < W.heap.size → ¬ extOf s.bx β b → W3.heap[b]? = (W.putObj l (.loop rec2)).heap[b]? := fun b hb hn =>
    hK.block b (by show b < (W.putObj l (.loop rec2)).heap.size; rw [World.putObj_size]; exact hb) hn
  have hsame : ∀ b, b < W.heap.size → ¬ extOf s.bx β b → b ≠ l → W3.heap[b]? = W.heap[b]? := fun b hb hn hl => (hsame2 b hb hn).trans (World.putObj_heap_other hl)
  have hM0n : ∀ b, X'.M0 b → ¬ extOf s.bx β b := fun b hb he => Ctx.own_m0 h.inv.m0 (hext b he).2 hb
  have hl3 : W3.heap[l]? = some (.loop rec2) := by
    rw [hsame2 l hltl (hM0n l h.dM.2.1)]
    exact World.putObj_heap_same hltl
  have hMe : ∀ b, X'.M0 b → Xe.M0 b := fun b hb => hL.m0 b hb
  have hownb : ∀ b, Xe.own b → (W.heap.size ≤ b ∨ extOf s.bx β b) := fun b hb => by
    rcases hL.own b hb with hb | hb
    · have e : (W.putObj l (.loop rec2)).heap.size = W.heap.size := World.putObj_size
      have : (W.putObj l (.loop rec2)).heap.size ≤ b := hb
      exact .inl (by omega)
    · exact .inr hb
  have hownX : ∀ b, Xe.own b → X.own b := fun b hb => by
    rcases hownb b hb with hb | hb
    · exact .inl (Nat.le_trans (h.later.world h.inv.keep).size hb)
    · exact h.later.own b (hext b hb).2
  have hlive3 : ∀ id k, live (lookB id s3.bx) = true → Blk (β3 id) k → k < W3.heap.size ∧ Xe.own k := fun id k hl hb => (hI.box id).lt hl hb
  have hkept : Kept W (MM X' (lookB · s.bx) β) W3 (MM Xe (lookB · s3.bx) β3) := fun k hk hn => by
    have hne : ¬ extOf s.bx β k := fun ⟨id, hl, hb⟩ => hn (.inr ⟨id, hl, hb⟩)
    refine ⟨hsame k hk hne fun e => hn (.inl (e ▸ h.dM.2.1)), ?_⟩
    have hno : ¬ Xe.own k := fun ho => by
      rcases hownb k ho with hb | hb
      · omega
      · exact hne hb
    rintro (hm | ⟨id, hl, hb⟩)
    · rcases hL.new k hm with hm | hm
      · exact hn (.inl hm)
      · rcases hm with hb | hb
        · have e : (W.putObj l (.loop rec2)).heap.size = W.heap.size := World.putObj_size
          have : (W.putObj l (.loop rec2)).heap.size ≤ k := hb
          omega
        · exact hne hb
    · exact hno (hlive3 id k hl hb).2
  have hpin : ∀ id, Turned (lookB id s.bx) (β id) (lookB id s3.bx) (β3 id) := fun id => by
    have := hI.pin id
    rw [hL.pb, hL.pv] at this
    exact this
  have hnn : Xe.n = X'.n := hL.n
  have hI3 : Inv Xe ⟨s.fr, s3.bx⟩ ⟨a.tmps, a3.defers⟩ W3 β3 := { hI with
    sz := h.inv.sz.trans hnn.symm
    fr := fun i => (h.inv.fr i).keep hKsz hkept hpin }
  have hlM : Xe.M0 l := hMe l h.dM.2.1
  have hlO : ∀ k, Xe.own k → k ≠ l := fun k hk e => Ctx.own_m0 hI.m0 hk (e ▸ hlM)
  have hWsz : (W3.putObj l (.loop rec3)).heap.size = W3.heap.size := World.putObj_size
  have hlt3 : l < W3.heap.size := Nat.lt_of_lt_of_le hltl hKsz
  have hXW := h.later.world h.inv.keep
  have hXW4 : Keep X (W3.putObj l (.loop rec3)) := by
    have hb2 : Keep X W3 := by
      refine ⟨hK.os.trans hXW.os, hK.tape.trans hXW.tape, hK.output.trans hXW.output, Nat.le_trans hXW.size hKsz, fun k g1 g2 => ?_⟩
      have hno := Ctx.not_own' g1 g2
      rw [hsame k (Nat.lt_of_lt_of_le g1 hXW.size) (fun he => hno (h.later.own k (hext k he).2)) fun e => hno (by rw [e]; exact h.dM.2.2.2.2.2.2.1)]
      exact hXW.block k g1 g2
    refine ⟨hb2.os, hb2.tape, hb2.output, by rw [hWsz]; exact hb2.size, fun k g1 g2 => ?_⟩
    rw [World.putObj_heap_other fun e => Ctx.not_own' g1 g2 (by rw [e]; exact h.dM.2.2.2.2.2.2.1)]
    exact hb2.block k g1 g2
  have hdsat : ∀ D' ∈ X'.ds, X'.M0 D' ∧ W3.heap[D']? = some (.deferred (some [])) := fun D' hD' => by
    obtain ⟨g1, g2⟩ := h.inv.df.2.2 D' hD'
    obtain ⟨g3, g4⟩ := h.inv.m0 D' g1
    have hlt := Nat.lt_of_lt_of_le g3 h.inv.keep.size
    refine ⟨g1, ?_⟩
    rw [hsame D' hlt (hM0n D' g1) fun e => h.dM.2.2.2.2.1 (by rw [← h.ds, ← e]; exact hD'), h.inv.keep.block D' g3 g4]
    exact g2
  refine ⟨hl3, by rw [hWsz]; exact hKsz, fun b hb hit => ?_, { Xe with w0 := W3.putObj l (.loop rec3), ext := fun b => Xe.own b ∧ b < W3.heap.size, pb := X'.pb, pv := X'.pv, ds := X'.ds, dt := X'.dt }, ?_⟩
  · have hbl : b ≠ l := by
      rcases hit with hit | ⟨_, hit⟩
      · exact (h.itM b hit).2.2.1
      · exact fun e => hit (e ▸ h.dM.2.2.2.2.2.2.2)
    rw [World.putObj_heap_other hbl]
    refine hsame b hb (fun he => ?_) hbl
    rcases hit with hit | ⟨h1, h2⟩
    · exact hM0n b (h.itM b hit).1 he
    · rcases h.old b (hext b he).2 with h3 | h3
      · omega
      · exact h2 h3
  · refine ⟨?_, ⟨hL.P.trans h.later.P, hL.E.trans h.later.E, hnn.trans h.later.n, h.later.pb, h.later.pv, hXW4, fun k hk => ?_, fun k hk => hMe k (h.later.m0 k hk), fun k hk => ?_, fun D' hD' => h.later.ds D' hD', h.later.dt⟩, h.ds, fun b hb => ⟨hMe b (h.itM b hb).1, (h.itM b hb).2⟩, ⟨hMe D h.dM.1, hlM, h.dM.2.2⟩, ?_, World.putObj_heap_same hlt3, fun b hb => ?_, ?_⟩
    · refine hI3.moved (a' := a) ⟨rfl, by rw [hWsz]; exact Nat.le_refl _, fun k hk hn => ⟨World.putObj_heap_other fun e => hn (.inl (e ▸ hlM)), fun hm => hn hm⟩, fun id k hl hb => ?_⟩ ⟨h.inv.df.1, h.inv.df.2.1, fun D' hD' => ?_⟩ rfl rfl (Keep.refl _) (fun k hk => ?_) fun id => (h.inv.pin id).trans (hpin id)
      · obtain ⟨g1, g2⟩ := hlive3 id k hl hb
        exact ⟨.inr ⟨g2, g1⟩, World.putObj_heap_other (hlO k g2)⟩
      · obtain ⟨g1, g2⟩ := hdsat D' hD'
        refine ⟨hMe D' g1, ?_⟩
        show (W3.putObj l (.loop rec3)).heap[D']? = _
        rw [World.putObj_heap_other fun e => h.dM.2.2.2.2.1 (by rw [← h.ds, ← e]; exact hD')]
        exact g2
      · refine ⟨?_, fun he => Ctx.own_m0 hI.m0 he.1 hk⟩
        show k < (W3.putObj l (.loop rec3)).heap.size
        rw [hWsz]
        exact Nat.lt_of_lt_of_le (hI.m0 k hk).1 hI.keep.size
    · rcases hk with hk | hk
      · have hk : (W3.putObj l (.loop rec3)).heap.size ≤ k := hk
        rw [hWsz] at hk
        exact .inl (Nat.le_trans hXW.size (Nat.le_trans hKsz hk))
      · exact hownX k hk.1
    · rcases hL.new k hk with hm | hm
      · exact h.later.new k hm
      · rcases hm with hb | hb
        · have hb : (W.putObj l (.loop rec2)).heap.size ≤ k := hb
          rw [World.putObj_size] at hb
          exact .inr (.inl (Nat.le_trans hXW.size hb))
        · exact .inr (h.later.own k (hext k hb).2)
    · rw [World.putObj_heap_other h.dM.2.2.1, hsame D hltD (hM0n D h.dM.1) h.dM.2.2.1]
      exact h.dat
    · have hb' : W.heap.size ≤ b ∨ extOf s.bx β b := by
        rcases hb with hb | hb
        · have hb : (W3.putObj l (.loop rec3)).heap.size ≤ b := hb
          rw [hWsz] at hb
          exact .inl (Nat.le_trans hKsz hb)
        · exact hownb b hb.1
      rcases hb' with hb | hb
      · exact .inl (Nat.le_trans h.size hb)
      · exact h.old b (hext b hb).2
    · rw [hWsz]
      exact Nat.le_trans h.size hKsz

theorem putObj_self {W : World} {l : Nat} {o : Obj} (h : W.heap[l]? = some o) : W.putObj l o = W := by
  have hlt : l < W.heap.size := (Array.getElem?_eq_some_iff.1 h).1
  have : W.heap.setIfInBounds l o = W.heap := by
    refine Array.ext (by simp) fun i h1 h2 => ?_
    rw [Array.getElem_setIfInBounds]
    split
    · rename_i e
      subst e
      have := (Array.getElem?_eq_some_iff.1 h).2
      exact this.symm
    · rfl
  show { W with heap := W.heap.setIfInBounds l o } = W
  rw [this]

/-- the round begins where its variables are set -/
theorem JI.again (h : JI X w1 M it a D l rec s W β X') (rec2 : Loop) {Xa : Ctx} {sa : S} {aa : Act} {Wa : World} {βa : Nat → Value} (hL : Later (X'.round W s.bx β) Xa) (hI : Inv Xa sa aa Wa βa) :
    Wa.heap[l]? = some (.loop rec) ∧ ∃ Xb, Later (X'.round (W.putObj l (.loop rec2)) s.bx β) Xb ∧ Inv Xb sa aa (Wa.putObj l (.loop rec2)) βa := by
  have hltl : l < W.heap.size := (Array.getElem?_eq_some_iff.1 h.lat).1
  have hlM : Xa.M0 l := hL.m0 l h.dM.2.1
  have hlO : ∀ k, Xa.own k → k ≠ l := fun k hk e => Ctx.own_m0 hI.m0 hk (e ▸ hlM)
  have hnext : ¬ extOf s.bx β l := fun ⟨id, hl, hb⟩ => Ctx.own_m0 h.inv.m0 ((h.inv.box id).lt hl hb).2 h.dM.2.1
  have hK := hL.keep
  have hla : Xa.w0.heap[l]? = some (.loop rec) := (hK.block l hltl hnext).trans h.lat
  obtain ⟨hm1, hm2⟩ := hI.m0 l hlM
  have hlw : Wa.heap[l]? = some (.loop rec) := (hI.keep.block l hm1 hm2).trans hla
  have hltw : l < Wa.heap.size := (Array.getElem?_eq_some_iff.1 hlw).1
  refine ⟨hlw, { Xa with w0 := Xa.w0.putObj l (.loop rec2) }, ⟨hL.P, hL.E, hL.n, hL.pb, hL.pv, ⟨hK.os, hK.tape, hK.output, ?_, fun k h1 h2 => ?_⟩, fun k hk => ?_, hL.m0, fun k hk => ?_, fun D' hD' => ?_, hL.dt⟩, ?_⟩
  · show (W.putObj l (.loop rec2)).heap.size ≤ (Xa.w0.putObj l (.loop rec2)).heap.size
    rw [World.putObj_size, World.putObj_size]
    exact hK.size
  · have h1 : k < (W.putObj l (.loop rec2)).heap.size := h1
    rw [World.putObj_size] at h1
    show (Xa.w0.putObj l (.loop rec2)).heap[k]? = (W.putObj l (.loop rec2)).heap[k]?
    by_cases e : k = l
    · subst e
      rw [World.putObj_heap_same hltl, World.putObj_heap_same hm1]
    · rw [World.putObj_heap_other e, World.putObj_heap_other e]
      exact hK.block k h1 h2
  · have hk' : Xa.own k := by
      rcases hk with hk | hk
      · have hk : (Xa.w0.putObj l (.loop rec2)).heap.size ≤ k := hk
        rw [World.putObj_size] at hk
        exact .inl hk
      · exact .inr hk
    rcases hL.own k hk' with hk | hk
    · refine .inl ?_
      show (W.putObj l (.loop rec2)).heap.size ≤ k
      rw [World.putObj_size]; exact hk
    · exact .inr hk
  · rcases hL.new k hk with hk | hk
    · exact .inl hk
    · right
      rcases hk with hk | hk
      · refine .inl ?_
        show (W.putObj l (.loop rec2)).heap.size ≤ k
        rw [World.putObj_size]; exact hk
      · exact .inr hk
  · rcases hL.ds D' hD' with hD | hD
    · exact .inl hD
    · right
      show (W.putObj l (.loop rec2)).heap.size ≤ D'
      rw [World.putObj_size]; exact hD
  · have hds : ∀ D' ∈ Xa.ds, D' ≠ l := fun D' hD' e => by
      have := (hI.df.2.2 D' hD').2
      rw [e, hla] at this
      cases this
    refine hI.moved (a' := aa) ⟨rfl, by rw [World.putObj_size]; exact Nat.le_refl _, fun k hk hn => ⟨World.putObj_heap_other fun e => hn (.inl (e ▸ hlM)), fun hm => hn hm⟩, fun id k hl hb => ?_⟩ ⟨hI.df.1, hI.df.2.1, fun D' hD' => ?_⟩ rfl rfl ⟨hI.keep.os, hI.keep.tape, hI.keep.output, ?_, fun k h1 h2 => ?_⟩ (fun k hk => ?_) hI.pin
    · obtain ⟨g1, g2⟩ := (hI.box id).lt hl hb
      refine ⟨?_, World.putObj_heap_other (hlO k g2)⟩
      rcases g2 with g2 | g2
      · refine .inl ?_
        show (Xa.w0.putObj l (.loop rec2)).heap.size ≤ k
        rw [World.putObj_size]; exact g2
      · exact .inr g2
    · obtain ⟨g1, g2⟩ := hI.df.2.2 D' hD'
      refine ⟨g1, ?_⟩
      show (Xa.w0.putObj l (.loop rec2)).heap[D']? = _
      rw [World.putObj_heap_other (hds D' hD')]
      exact g2
    · show (Xa.w0.putObj l (.loop rec2)).heap.size ≤ (Wa.putObj l (.loop rec2)).heap.size
      rw [World.putObj_size, World.putObj_size]
      exact hI.keep.size
    · have h1 : k < (Xa.w0.putObj l (.loop rec2)).heap.size := h1
      rw [World.putObj_size] at h1
      show (Wa.putObj l (.loop rec2)).heap[k]? = (Xa.w0.putObj l (.loop rec2)).heap[k]?
      by_cases e : k = l
      · subst e
        rw [World.putObj_heap_same hltw, World.putObj_heap_same hm1]
      · rw [World.putObj_heap_other e, World.putObj_heap_other e]
        exact hI.keep.block k h1 h2
    · refine ⟨?_, (hI.m0 k hk).2⟩
      show k < (Xa.w0.putObj l (.loop rec2)).heap.size
      rw [World.putObj_size]
      exact (hI.m0 k hk).1

/-- the loop is over: its mark is among the deferred calls -/
theorem JI.over (h : JI X w1 M it a D l rec s W β X') (hD : X.w0.heap.size ≤ D) (rec' : Loop) : ∃ X4, Later X X4 ∧ Inv X4 s { a with defers := mark D :: a.defers } (W.putObj l (.loop rec')) β := by
  have h' := h.put rec'
  refine ⟨{ X'.past W (W.putObj l (.loop rec')) with ds := D :: X'.ds }, ⟨h'.later.P, h'.later.E, h'.later.n, h'.later.pb, h'.later.pv, h'.later.keep, h'.later.own, h'.later.m0, h'.later.new, fun D' hD' => ?_, h'.later.dt⟩, ?_⟩
  · rcases List.mem_cons.1 hD' with rfl | hD'
    · exact .inr hD
    · exact h.later.ds D' hD'
  · refine h'.inv.moved (a' := { a with defers := mark D :: a.defers }) ⟨rfl, Nat.le_refl _, fun k _ hn => ⟨rfl, hn⟩, fun id k hl hb => ⟨((h'.inv.box id).lt hl hb).2, rfl⟩⟩ ⟨?_, ?_, fun D' hD' => ?_⟩ rfl rfl (Keep.refl _) h'.inv.m0 h'.inv.pin
    · show mark D :: a.defers = (D :: X'.ds).map mark ++ X'.dt
      rw [List.map_cons, List.cons_append, h.inv.df.1]
    · refine List.nodup_cons.2 ⟨?_, h.inv.df.2.1⟩
      rw [h.ds]
      exact h.dM.2.2.2.1
    · rcases List.mem_cons.1 hD' with rfl | hD'
      · exact ⟨h'.dM.1, h'.dat⟩
      · exact h'.inv.df.2.2 D' hD'

end
end Go.Vx
end

section
set_option linter.unusedVariables false
namespace Go.Vx
open Go Go.RowKit

theorem keysR_mem {ρ : List (Nat × Nat)} : ∀ {l : List (Nat × Box)} {id : Nat} {b : Box}, (id, b) ∈ l → ren ρ id ∈ keysR ρ l
  | p :: r, id, b, h => by
    rcases List.mem_cons.1 h with h | h
    · rw [← h]; exact List.mem_cons_self ..
    · exact List.mem_cons_of_mem _ (keysR_mem h)

theorem wpIn_inRound {l : Nat} {n : Nat} {P : Program} {c : Code} {Q : Exit → Act → World → Prop} {a : Act} {w : World} : (c.wpIn ((fenceR none).inRound l) n P Q a w) = c.wpIn (fenceR (some l)) n P Q a w := rfl

section
variable {X : Ctx} {s : S} {a : Act} {w : World} {β : Nat → Value}

/-- the parameters of a round are written -/
theorem Inv.push : ∀ (ps : List Nat) (e : List AV) (vs : List Value) {s : S} {a : Act}, (∀ p ∈ ps, p < X.n) → vs.length = e.length → e.length = ps.length → (∀ (j : Nat) av, e[j]? = some av → FlatV (vs.getD j undef) av) → Inv X s a w β →
    Inv X ⟨pushP ps e s.fr, s.bx⟩ { a with tmps := (ps.zip vs).foldl (fun t (p, v) => t.setIfInBounds p v) a.tmps } w β
  | [], e, vs, s, a, _, _, he, _, h => by
    unfold pushP
    exact h
  | p :: ps, [], vs, s, a, _, _, he, _, _ => by cases he
  | p :: ps, av :: e, [], s, a, _, hv, _, _, _ => by cases hv
  | p :: ps, av :: e, v :: vs, s, a, hp, hv, he, hf, h => by
    have h1 := h.putv (d := p) (v := v) (av := av) (hp p (List.mem_cons_self ..)) (hf 0 av rfl w _ _ _)
    exact Inv.push ps e vs (s := ⟨(p, av) :: s.fr, s.bx⟩) (a := a.put (some p) v) (fun q hq => hp q (List.mem_cons_of_mem _ hq)) (by simpa using hv) (by simpa using he) (fun j av' hj => by simpa using hf (j + 1) av' (by simpa using hj)) h1

theorem exec_assign {o : Oper} {x : Operand} (ho : o.op = .assign x) {ρ : Operand → Value} {P : Program} : (execOp ρ o).run P w = .ok (.value (ρ x)) w := by
  simp [execOp, ho, Sem.run_pure]

theorem range_sound {n : Nat} {g : Operand} {ps : Array Nat} {as body : Code} {Q : Exit → S → Prop} {Q' : Exit → Act → World → Prop} {A : List (Nat × Box) → (S → Prop) → S → Prop} {W : List (Nat × Box) → (Exit → S → Prop) → S → Prop} (hE : EnvOK X.P X.E)
    (hbody : ∀ (Xb : Ctx) (l m : Nat) (Qb : Exit → S → Prop) (Q'' : Exit → Act → World → Prop) {s : S} {a : Act} {w : World} {β : Nat → Value}, Xb.P = X.P → Xb.E = X.E → Xb.n = X.n → W Xb.pb Qb s → Inv Xb s a w β →
      (∀ e X' s a w β, Later Xb X' → Qb e s → Inv X' s a w β → Q'' e a w) → body.wpIn (fenceR (some l)) m X.P Q'' a w)
    (has : ∀ (Xb : Ctx) (l m : Nat) (K : S → Prop) (Q'' : Exit → Act → World → Prop) {s : S} {a : Act} {w : World} {β : Nat → Value}, Xb.P = X.P → Xb.E = X.E → Xb.n = X.n → A Xb.pb K s → Inv Xb s a w β →
      (∀ X' s a w β, Later Xb X' → K s → Inv X' s a w β → Q'' .normal a w) → as.wpIn (fenceR (some l)) m X.P Q'' a w) (hps : ∀ p ∈ ps.toList, p < X.n) (h : RangeVC X.P X.E X.pb ps.toList A W Q g s) (hI : Inv X s a w β) (hQ : ∀ e X' s a w β, Later X X' → Q e s → Inv X' s a w β → Q' e a w) :
    (Code.rangeFunc g ps as body).wpIn (fenceR none) n X.P Q' a w := by
  obtain ⟨gs, φ, ρ, hs, es, Y, inv, st, Q2, hgs, hit, hlen, ⟨y0, ⟨hinto, hpin, hdis⟩, hy0⟩, hQ2, hround, hdone⟩ := h
  obtain ⟨β1, hI1⟩ := hI.owns hE gs hgs
  have hI1 : Inv X (frzS φ (ownS gs s)) a w β1 := hI1.frzB φ
  have hev := hI1.ev g
  rw [show ev (frzS φ (ownS gs s)).fr g = ev (ownS gs s).fr g from rfl] at hev
  generalize hs1 : frzS φ (ownS gs s) = s1 at hI1 hit hinto hpin hev
  cases hgv : ev (ownS gs s).fr g <;> rw [hgv] at hit <;> simp only [ItOf] at hit
  rename_i f caps
  rw [hgv] at hev
  obtain ⟨caps0, bx0, σ, ⟨⟨fn, hf1, hf2, hf3⟩, hseq⟩, hfit, hB, hN, rfl⟩ := hit
  obtain ⟨cv, hcv, hcs, hcr⟩ : ∃ cv, a.eval g = .func (.func f) #[] cv ∧ cv.size = caps.length ∧ ∀ j av, caps[j]? = some av → RV w (MM X (lookB · s1.bx) β1) β1 (lookB · s1.bx) (cv.getD j undef) av := by
    generalize a.eval g = vf at hev
    cases hev with
    | fn _ cv _ h1 h2 => exact ⟨cv, rfl, h1, h2⟩
  have heg : ∀ (args : Array Value) (w : World), (callFunc f args).run X.P w = .ok (.enter f args) w := fun args w => by
    simp only [callFunc, Sem.run_bind, Sem.run_pure, Result.andThen_ok, run_program, hf1, hf2, hf3, Bool.false_eq_true, if_false]
  refine wpIn_rangeFunc fun fnid _ => ?_
  obtain ⟨rec, hrec⟩ : ∃ rec : LoopState → Option Code → Loop, rec = fun st pe => { state := st, pending := pe, fn := fnid, tmps := a.tmps, params := ps, assign := as, body, defers := w.heap.size } := ⟨_, rfl⟩
  obtain ⟨W1, hW1⟩ : ∃ W1, (w.alloc (.deferred (some []))).alloc (.loop (rec .ready none)) = W1 := ⟨_, rfl⟩
  have hW1s : W1.heap.size = w.heap.size + 2 := by rw [← hW1]; simp
  have hL1 : W1.heap[w.heap.size + 1]? = some (.loop (rec .ready none)) := by
    rw [← hW1]; have := World.alloc_heap_new (w.alloc (.deferred (some []))) (.loop (rec .ready none)); rwa [World.size_alloc] at this
  have hK1 : W1.heap[w.heap.size]? = some (.deferred (some [])) := by
    rw [← hW1]; exact (Below.heap_alloc _ _ _ (by simp)).trans (World.alloc_heap_new w _)
  have hsame1 : ∀ b, b < w.heap.size → W1.heap[b]? = w.heap[b]? := fun b hb => by
    rw [← hW1]; exact (Below.heap_alloc _ _ _ (by simp; omega)).trans (Below.heap_alloc _ _ _ hb)
  have hmeta : W1.os = w.os ∧ W1.tape = w.tape ∧ W1.output = w.output := by rw [← hW1]; exact ⟨rfl, rfl, rfl⟩
  -- the caller in the world with the loop's blocks
  have hI2 : Inv (X.past w W1) s1 a W1 β1 := hI1.past (C := fun _ => False) (fun b hb => hb.elim) (by omega) fun b hb _ => hsame1 b hb
  have hkW1 : Keep X W1 := ⟨hmeta.1.trans hI.keep.os, hmeta.2.1.trans hI.keep.tape, hmeta.2.2.trans hI.keep.output, by have := hI.keep.size; omega, fun k g1 g2 => (hsame1 k (Nat.lt_of_lt_of_le g1 hI.keep.size)).trans (hI.keep.block k g1 g2)⟩
  have hlive := LeB.mm (s := s1) hB
  let β0 : Nat → Value := fun id => β1 (ren σ id)
  let M : Nat → Prop := fun k => MM (X.past w W1) (lookB · s1.bx) β1 k ∧ ¬ extOf bx0 β0 k
  let Z : Ctx := X0 X.P X.E W1 M β0 bx0
  have hextL : ∀ k, extOf bx0 β0 k → ∃ id, ren σ id ∈ keysR σ bx0 ∧ live (lookB (ren σ id) s1.bx) = true ∧ Blk (β1 (ren σ id)) k := fun k ⟨id, hl, hb⟩ => by
    obtain ⟨b, hmem⟩ := lookB_mem (id := id) (l := bx0) fun hd => by rw [hd] at hl; cases hl
    exact ⟨id, keysR_mem hmem, hlive id hl, hb⟩
  have hliveW : ∀ id k, live (lookB id s1.bx) = true → Blk (β1 id) k → k < w.heap.size ∧ X.own k := fun id k hl hb => (hI1.box id).lt hl hb
  have hYM : ∀ k, MM Z (lookB · bx0) β0 k → MM (X.past w W1) (lookB · s1.bx) β1 k := fun k hk => by
    rcases hk with hk | ⟨id, hl, hb⟩
    · exact hk.1
    · exact .inr ⟨ren σ id, hlive id hl, hb⟩
  have hface : Face Z W1 β0 bx0 := by
    refine ⟨fun id => LeB.boxes (X := X.past w W1) (s := s1) (s0 := ⟨[], bx0⟩) (Y := Z) rfl hI2.box (fun id0 k hl hb => .inr ⟨id0, hl, hb⟩) hB hYM id, fun i j k hi hj hbi hbj => ?_⟩
    refine nodupR_inj hN i j (lookB_mem fun hd => ?_) (lookB_mem fun hd => ?_) (hI1.inj _ _ k (hlive i hi) (hlive j hj) hbi hbj)
    · rw [hd] at hi; cases hi
    · rw [hd] at hj; cases hj
  obtain ⟨hfl, hat⟩ := FitL.at hfit
  have hlt1 : ∀ k, MM (X.past w W1) (lookB · s1.bx) β1 k → k < W1.heap.size := fun k hk => hI2.lt hk
  have hseq := hseq W1 M β0 cv (fun k hk => ⟨hlt1 k hk.1, hk.2⟩) hface (hcs.trans hfl) fun j av hj => by
    obtain ⟨av', ha, hf⟩ := hat j av hj
    have hk := hI2.frzV
    refine hf.rv hk hYM ((hcr j av' ha).keep (by omega) (fun k hk hn => ⟨hsame1 k hk, ?_⟩) fun id => Turned.refl _ _)
    rintro (hm | hm)
    · rcases hm with hm | hm
      · exact hn (.inl hm)
      · omega
    · exact hn (.inr hm)
  -- the caller's own context, with the boxes given away
  let X2 : Ctx := { X with w0 := W1, M0 := fun b => (X.past w W1).M0 b ∨ extOf bx0 β0 b, ext := fun b => extOf s1.bx β1 b ∧ ¬ extOf bx0 β0 b }
  have hextO : ∀ k, extOf bx0 β0 k → k < w.heap.size ∧ X.own k := fun k hk => by
    obtain ⟨id, _, hl, hb⟩ := hextL k hk
    exact hliveW _ k hl hb
  have hXM0 : ∀ k, X.M0 k → k < w.heap.size ∧ ¬ X.own k := fun k hk => ⟨Nat.lt_of_lt_of_le (hI1.m0 k hk).1 hI1.keep.size, fun ho => Ctx.own_m0 hI1.m0 ho hk⟩
  have hnotds : ∀ k, X.own k → k ∉ X.ds := fun k ho hd => (hXM0 k (hI1.df.2.2 k hd).1).2 ho
  have hownD : ∀ k, w.heap.size ≤ k → X.own k := fun k hk => .inl (Nat.le_trans hI.keep.size hk)
  have hIy : Inv X2 (st y0) a W1 (fun i => β1 (ren ρ i)) := by
    have hpins := (hI1.into hinto hpin).pin
    have hliveρ := LeB.mm (s := s1) hinto.2.1
    refine hI2.intoX hinto rfl ⟨hI1.df.1, hI1.df.2.1, fun D' hD' => ?_⟩ rfl (Keep.refl X2) (fun k hk => ?_) (fun id0 k hl hb => ?_) (fun k hk => ?_) hpins
    · obtain ⟨g1, g2⟩ := hI1.df.2.2 D' hD'
      obtain ⟨g3, g4⟩ := hI1.m0 D' g1
      refine ⟨.inl (.inl g1), ?_⟩
      show W1.heap[D']? = _
      rw [hsame1 D' (hXM0 D' g1).1, hI1.keep.block D' g3 g4]
      exact g2
    · show k < W1.heap.size ∧ ¬ (extOf s1.bx β1 k ∧ ¬ extOf bx0 β0 k)
      rcases hk with (hk | hk) | hk
      · refine ⟨by have := (hXM0 k hk).1; omega, fun ⟨⟨id, hl, hb⟩, _⟩ => (hXM0 k hk).2 (hliveW id k hl hb).2⟩
      · exact ⟨hk.2, fun ⟨⟨id, hl, hb⟩, _⟩ => by have := (hliveW id k hl hb).1; omega⟩
      · exact ⟨by have := (hextO k hk).1; omega, fun hh => hh.2 hk⟩
    · refine .inr ⟨⟨ren ρ id0, hliveρ id0 hl, hb⟩, fun he => ?_⟩
      obtain ⟨id, hmem, hl', hb'⟩ := hextL k he
      have heq := hI1.inj _ _ k (hliveρ id0 hl) hl' hb hb'
      obtain ⟨bb, hm0⟩ := lookB_mem (id := id0) (l := (st y0).bx) fun hd => by rw [hd] at hl; cases hl
      exact disjN_spec hdis _ (keysR_mem hm0) (heq ▸ hmem)
    · rcases hk with (hk | hk) | ⟨id, hl, hb⟩
      · exact .inl hk
      · obtain ⟨id, _, hl, hb⟩ := hextL k hk
        exact .inr ⟨_, hl, hb⟩
      · exact .inr ⟨_, hliveρ id hl, hb⟩
  have hJ0 : JI X W1 M (extOf bx0 β0) a w.heap.size (w.heap.size + 1) (rec .ready none) (st y0) W1 (fun i => β1 (ren ρ i)) X2 := by
    refine ⟨hIy, ⟨rfl, rfl, rfl, rfl, rfl, hkW1, fun k hk => ?_, fun k hk => .inl (.inl hk), fun k hk => ?_, fun D' hD' => .inl hD', rfl⟩, rfl, fun b hb => ⟨.inr hb, by have := (hextO b hb).1; omega, by have := (hextO b hb).1; omega, hnotds b (hextO b hb).2, (hextO b hb).2⟩,
      ⟨.inl (.inr ⟨Nat.le_refl _, by omega⟩), .inl (.inr ⟨by omega, by omega⟩), by omega, hnotds _ (hownD _ (Nat.le_refl _)), hnotds _ (hownD _ (by omega)), hownD _ (Nat.le_refl _), hownD _ (by omega), ⟨.inl (.inr ⟨by omega, by omega⟩), fun he => by have := (hextO _ he).1; omega⟩⟩, hK1, hL1, fun b hb => ?_, Nat.le_refl _⟩
    · rcases hk with hk | hk
      · have hk : W1.heap.size ≤ k := hk
        exact hownD k (by omega)
      · obtain ⟨⟨id, hl, hb⟩, _⟩ := hk
        exact (hliveW id k hl hb).2
    · rcases hk with (hk | hk) | hk
      · exact .inl hk
      · exact .inr (hownD k hk.1)
      · exact .inr (hextO k hk).2
    · rcases hb with hb | hb
      · exact .inl hb
      · exact .inr ⟨.inr hb.1, hb.2⟩
  -- what holds between two rounds
  let J : Option Nat → (Nat → Prop) → World → Prop := fun gh it W => match gh with
    | some k => ∃ y β X', inv k y ∧ JI X W1 M it a w.heap.size (w.heap.size + 1) (rec .ready none) (st y) W β X'
    | none => ∃ e c s3 β X', (e = .ret ∧ c = Code.ret ∨ ∃ i, e = .exit i ∧ c = Code.exit i) ∧ Q2 e s3 ∧ JI X W1 M it a w.heap.size (w.heap.size + 1) (rec .done (some c)) s3 W β X'
  have hstable : Stable J := by
    intro gh it it' W W' hj h1 h2 h3 hsz hsame _ hit
    cases gh with
    | some k =>
      obtain ⟨y, β, X', hy, hj⟩ := hj
      exact ⟨y, β, _, hy, hj.stable h1 h2 h3 hsz hsame hit⟩
    | none =>
      obtain ⟨e, c, s3, β, X', hec, hq, hj⟩ := hj
      exact ⟨e, c, s3, β, _, hec, hq, hj.stable h1 h2 h3 hsz hsame hit⟩
  have hyield : YieldsTo X.P (w.heap.size + 1) es W1 M J := by
    intro k e it W vs hk hj hvs hfl m
    obtain ⟨y, β, X', hy, hj⟩ := hj
    have helen : e.length = ps.toList.length := hlen e (List.mem_of_getElem? hk)
    have hrecp : (rec .ready none).params = ps := by rw [hrec]
    refine ⟨_, _, _, _, run_yield hj.lat (by rw [hrecp, hvs, helen]; simp), ?_⟩
    have hra : (rec .ready none).assign = as := by rw [hrec]
    have hrb : (rec .ready none).body = body := by rw [hrec]
    have hrt : (rec .ready none).tmps = a.tmps := by rw [hrec]
    rw [hra, hrb, hrt, hrecp]
    have hbeg := hj.begin (rec .ready none)
    rw [putObj_self hj.lat] at hbeg
    have hpush := Inv.push (X := X'.round W (st y).bx β) ps.toList e vs.toList (fun p hp => by
      show p < X'.n
      rw [hj.later.n]; exact hps p hp) (by simpa using hvs) helen (fun j av hj => by
        have := hfl j av hj
        have e1 : vs.toList.getD j undef = vs.getD j undef := by simp [Array.getD_eq_getD_getElem?, List.getD_eq_getElem?_getD]
        rw [e1]; exact this) hbeg
    have etm : (ps.zip vs).foldl (fun t (p, v) => t.setIfInBounds p v) a.tmps = (ps.toList.zip vs.toList).foldl (fun t (p, v) => t.setIfInBounds p v) a.tmps := by
      rw [← Array.foldl_toList, Array.toList_zip]
    rw [etm]
    have hrs : ({ rec .ready none with state := .busy } : Loop) = rec .busy none := by rw [hrec]
    refine roundIn_of_wpIn trivial ?_
    rw [wpIn_inRound]
    refine has (X'.round W (st y).bx β) (w.heap.size + 1) m _ _ hj.later.P hj.later.E hj.later.n (hround k e y hk hy) hpush fun Xa sa aa Wa βa hLa hqa hIa => ?_
    obtain ⟨gl, Xb, hLb, hIb⟩ := hj.again (rec .busy none) hLa hIa
    refine ⟨_, run_beginRound gl (by rw [hrec]), ?_⟩
    rw [hrs, wpIn_inRound]
    refine hbody Xb _ _ _ _ (hLb.P.trans hj.later.P) (hLb.E.trans hj.later.E) (hLb.n.trans hj.later.n) (by rw [hLb.pb]; exact hqa) hIb fun ex Xe s3 a3 W3 β3 hL hq hI3 => ?_
    have hL := hLb.trans hL
    have hend : ∀ (jump : Option Code), W3.heap[w.heap.size + 1]? = some (.loop (rec .busy none)) → (Instr.endRound (w.heap.size + 1) jump).run X.P W3 = .ok (.bool jump.isNone) (W3.putObj (w.heap.size + 1) (.loop (rec (if jump.isNone then .ready else .done) jump))) := fun jump hl => by
      have := run_endRound (P := X.P) jump hl
      rw [hrec] at this ⊢
      exact this
    cases ex with
    | normal =>
      obtain ⟨y', he, hy'⟩ := hq
      obtain ⟨g1, g2, g3, Xf, g4⟩ := hj.finish (rec .busy none) (rec .ready none) hL hI3
      obtain ⟨β', g5⟩ := g4.enter hE he
      exact ⟨_, _, hend none g1, .inl ⟨rfl, y', β', Xf, hy', g5⟩, g2, g3⟩
    | ret =>
      obtain ⟨g1, g2, g3, Xf, g4⟩ := hj.finish (rec .busy none) (rec .done (some .ret)) hL hI3
      exact ⟨_, _, hend (some .ret) g1, .inr ⟨rfl, .ret, .ret, _, β3, Xf, .inl ⟨rfl, rfl⟩, hq, g4⟩, g2, g3⟩
    | exit i =>
      obtain ⟨g1, g2, g3, Xf, g4⟩ := hj.finish (rec .busy none) (rec .done (some (.exit i))) hL hI3
      exact ⟨_, _, hend (some (.exit i)) g1, .inr ⟨rfl, .exit i, .exit i, _, β3, Xf, .inr ⟨i, rfl, rfl⟩, hq, g4⟩, g2, g3⟩
    | goto t => exact hq.elim
    | panic ch => exact hq.elim
    | outgrown => exact hq.elim
  refine ⟨w.heap.size + 1, [{ target := .collected w.heap.size, args := #[] }], W1, { target := .fn (.func f) cv, args := #[.func (.yield (w.heap.size + 1)) #[] #[]] }, W1, f,
    #[.func (.yield (w.heap.size + 1)) #[] #[]] ++ cv, W1, ?_, ?_, ?_, ?_, noDepth, ?_⟩
  · rw [← hW1, hrec]; exact run_enterLoop_outer _ _ _ _ _
  · simp only [resolve, hcv]
    simp [go_sem]
  · intro f' _; trivial
  · simp [invoke, go_sem, heg]
  · refine callsR ((hseq (w.heap.size + 1) J hstable hyield ⟨y0, _, X2, hy0, hJ0⟩).mono ?_)
    rintro e W' ⟨⟨v, rfl⟩, it, hj | hj⟩
    · obtain ⟨y, β, X', hy, hj⟩ := hj
      obtain ⟨X4, hL4, hI4⟩ := hj.over (by exact hI.keep.size) (rec .exhausted none)
      refine ⟨none, W'.putObj (w.heap.size + 1) (.loop (rec .exhausted none)), ?_, ?_⟩
      · have := run_endLoop (P := X.P) hj.lat (by rw [hrec]; simp)
        rw [hrec] at this ⊢
        exact this
      · rcases hdone y hy with hq | ⟨s', he, hq⟩
        · exact hQ _ X4 _ _ _ _ hL4 hq hI4
        · obtain ⟨β', hI'⟩ := Enter.inv (X := X4) (by rw [hL4.P, hL4.E]; exact hE) (by rw [hL4.E, hL4.pb]; exact he) hI4
          exact hQ _ X4 _ _ _ _ hL4 hq hI'
    · obtain ⟨e, c, s3, β, X', hec, hq, hj⟩ := hj
      obtain ⟨X4, hL4, hI4⟩ := hj.over (by exact hI.keep.size) (rec .exhausted (some c))
      have hfin : Q' e { a with defers := mark w.heap.size :: a.defers } (W'.putObj (w.heap.size + 1) (.loop (rec .exhausted (some c)))) := by
        rcases hQ2 e s3 hq with hq | ⟨s', he, hq⟩
        · exact hQ _ X4 _ _ _ _ hL4 hq hI4
        · obtain ⟨β', hI'⟩ := Enter.inv (X := X4) (by rw [hL4.P, hL4.E]; exact hE) (by rw [hL4.E, hL4.pb]; exact he) hI4
          exact hQ _ X4 _ _ _ _ hL4 hq hI'
      refine ⟨some c, W'.putObj (w.heap.size + 1) (.loop (rec .exhausted (some c))), ?_, ?_⟩
      · have := run_endLoop (P := X.P) hj.lat (by rw [hrec]; simp)
        rw [hrec] at this ⊢
        exact this
      · rcases hec with ⟨rfl, rfl⟩ | ⟨i, rfl, rfl⟩
        · exact wpIn_ret hfin
        · exact wpIn_exit hfin

end
end Go.Vx
end
