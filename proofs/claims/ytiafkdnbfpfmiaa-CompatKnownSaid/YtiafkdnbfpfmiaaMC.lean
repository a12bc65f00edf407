/-
  The verification-condition generator over Code: definitions; soundness of a region's conditions, of what is carried into a loop, of a function's contract. Conditions: none.
  Soundness of the verification-condition generator: what is carried over under new names; a call that is handed boxes. Conditions: none.
  Soundness of the verification-condition generator: a call that is handed boxes. Conditions: none.
  Soundness of the verification-condition generator: loops, whole bodies, contracts. Conditions: none.
  Soundness of the verification-condition generator: contracts of functions that are handed boxes. Conditions: none.
  Contracts: a fresh result is also a result by value. Conditions: none.
  The evaluation equations of the verification-condition generator, one conjunction, for 'simp only'. Written by the program 'gen.py'. Conditions: none.
  The simple equations that the generator's evaluation uses, one conjunction. Conditions: none.
-/
import Derived.Test.YtiafkdnbfpfmiaaMB
import Derived.LoopN

section
set_option linter.unusedVariables false
namespace Go.Vx
open Go Go.RowKit

/-! ### definitions -/
def guardB (s : S) (run skip : S → Prop) : Bool → Prop
  | true => run s
  | false => skip s
def memN (i : Nat) : List Nat → Bool
  | [] => false
  | j :: r => cond (i == j) true (memN i r)
/-! what is carried into a loop: facts are dropped, boxes take new names, an empty slice is owned -/
def ren : List (Nat × Nat) → Nat → Nat
  | [], i => i
  | p :: r, i => cond (i == p.1) p.2 (ren r i)
def SameO (ver ver0 : Nat) : Box → Box → Prop
  | .arr e v xs, .arr e' v' xs' => v = ver ∧ v' = ver0 ∧ e = e' ∧ xs = xs'
  | .frz v xs, .frz v' xs' => v = ver ∧ v' = ver0 ∧ xs = xs'
  | _, _ => False
def FitO (id ver0 : Nat) (b b0 : Box) : AV → Prop
  | .osl id' ver => id' = id ∧ SameO ver ver0 b b0
  | _ => False
def bothC : Box → Box → Prop
  | .cells _, .cells _ => True
  | _, _ => False
def FitP (id off0 : Nat) (b b0 : Box) : AV → Prop
  | .bp id' off => id' = id ∧ off = off0 ∧ bothC b b0
  | _ => False
def bothM : Box → Box → Prop
  | .map _ _ _, .map _ _ _ => True
  | _, _ => False
def FitM (id : Nat) (b b0 : Box) : AV → Prop
  | .mp id' => id' = id ∧ bothM b b0
  | _ => False
def FitZ (ver : Nat) (d : D) : Box → Prop
  | .frz v xs => v = ver ∧ .sl xs = d
  | _ => False
def FitC (bx : List (Nat × Box)) (d : D) : AV → Prop
  | .c (.sc (.slice none 0 0)) => d = .sc (.slice none 0 0) ∨ d = .sl []
  | .c d' => d' = d
  | .osl id ver => FitZ ver d (lookB id bx)
  | _ => False
def FitV0 (ρ : List (Nat × Nat)) (bx bx0 : List (Nat × Box)) (v : AV) : AV → Prop
  | .top => True
  | .osl id0 ver0 => FitO (ren ρ id0) ver0 (lookB (ren ρ id0) bx) (lookB id0 bx0) v
  | .bp id0 off0 => FitP (ren ρ id0) off0 (lookB (ren ρ id0) bx) (lookB id0 bx0) v
  | .mp id0 => FitM (ren ρ id0) (lookB (ren ρ id0) bx) (lookB id0 bx0) v
  | .c d => FitC bx d v
  | .ag ds => v = .ag ds
  | .ip ds => v = .ip ds
  | .fn f [] => v = .fn f []
  | _ => False
def FitL0 (ρ : List (Nat × Nat)) (bx bx0 : List (Nat × Box)) : List AV → List AV → Prop
  | [], [] => True
  | v :: r, v0 :: r0 => FitV0 ρ bx bx0 v v0 ∧ FitL0 ρ bx bx0 r r0
  | _, _ => False
def FitF (ρ : List (Nat × Nat)) (bx bx0 : List (Nat × Box)) (f : Nat) (cs0 : List AV) : AV → Prop
  | .fn f' cs => f' = f ∧ FitL0 ρ bx bx0 cs cs0
  | _ => False
def FitV (ρ : List (Nat × Nat)) (bx bx0 : List (Nat × Box)) (v : AV) : AV → Prop
  | .fn f cs0 => FitF ρ bx bx0 f cs0 v
  | v0 => FitV0 ρ bx bx0 v v0
def FitL (ρ : List (Nat × Nat)) (bx bx0 : List (Nat × Box)) : List AV → List AV → Prop
  | [], [] => True
  | v :: r, v0 :: r0 => FitV ρ bx bx0 v v0 ∧ FitL ρ bx bx0 r r0
  | _, _ => False
def FitCs (ρ : List (Nat × Nat)) (bx bx0 : List (Nat × Box)) : List AV → List AV → Prop
  | [], [] => True
  | v :: r, v0 :: r0 => (FitV ρ bx bx0 v v0 ∧ cellAV v0 = true) ∧ FitCs ρ bx bx0 r r0
  | _, _ => False
def FitB (ρ : List (Nat × Nat)) (bx bx0 : List (Nat × Box)) : Box → Box → Prop
  | _, .dead => True
  | .arr e _ xs, .arr e' _ xs' => e = e' ∧ xs = xs'
  | .frz _ xs, .frz _ xs' => xs = xs'
  | .map kt et es, .map kt' et' es' => kt = kt' ∧ et = et' ∧ es = es'
  | .cells cs, .cells cs' => FitCs ρ bx bx0 cs cs'
  | _, _ => False
def LeF (ρ : List (Nat × Nat)) (s : S) (bx0 : List (Nat × Box)) : List (Nat × AV) → Prop
  | [] => True
  | p :: r => FitV ρ s.bx bx0 (look p.1 s.fr) p.2 ∧ LeF ρ s bx0 r
def LeB (ρ : List (Nat × Nat)) (s : S) (bx0 : List (Nat × Box)) : List (Nat × Box) → Prop
  | [] => True
  | p :: r => FitB ρ s.bx bx0 (lookB (ren ρ p.1) s.bx) p.2 ∧ LeB ρ s bx0 r
def nodupR (ρ : List (Nat × Nat)) : List (Nat × Box) → List Nat → Bool
  | [], _ => true
  | p :: r, seen => cond (memN (ren ρ p.1) seen) false (nodupR ρ r (ren ρ p.1 :: seen))
def frz1 (id : Nat) (bx : List (Nat × Box)) : Box → List (Nat × Box)
  | .arr _ v xs => (id, .frz v xs) :: bx
  | _ => bx
def frzB : List Nat → List (Nat × Box) → List (Nat × Box)
  | [], bx => bx
  | id :: r, bx => frzB r (frz1 id bx (lookB id bx))

/-- a contract of a function that is handed boxes: what they are, what comes back, what they are then -/
def extOf (bx : List (Nat × Box)) (β : Nat → Value) (k : Nat) : Prop := ∃ id, live (lookB id bx) = true ∧ blk (β id) = some k
def X0 (P : Program) (E : Env) (w : World) (M : Nat → Prop) (β : Nat → Value) (bx : List (Nat × Box)) : Ctx := ⟨P, E, w, M, extOf bx β, 0, [], fun _ => undef⟩
structure Face (X : Ctx) (w : World) (β : Nat → Value) (bx : List (Nat × Box)) : Prop where
  box : ∀ id, BoxOK X w (MM X (lookB · bx) β) β (lookB · bx) id (lookB id bx)
  inj : ∀ i j k, live (lookB i bx) = true → live (lookB j bx) = true → blk (β i) = some k → blk (β j) = some k → i = j
def OkM (P : Program) (E : Env) (f : Nat) (args : List AV) (bx : List (Nat × Box)) (r : AV) (bx' : List (Nat × Box)) : Prop :=
  Callable P f ∧ ∀ (w : World) (M : Nat → Prop) (β : Nat → Value) (vals : Array Value), (∀ k, M k → k < w.heap.size ∧ ¬ extOf bx β k) → Face (X0 P E w M β bx) w β bx → vals.size = args.length →
    (∀ j av, args[j]? = some av → RV w (MM (X0 P E w M β bx) (lookB · bx) β) β (lookB · bx) (vals.getD j undef) av) →
    Calls P f vals w fun e w' => ∃ v β', e = .returned v ∧ Keep (X0 P E w M β bx) w' ∧ Face (X0 P E w M β bx) w' β' bx' ∧ (∀ id, Turned (lookB id bx) (β id) (lookB id bx') (β' id)) ∧
      RV w' (MM (X0 P E w M β bx) (lookB · bx') β') β' (lookB · bx') v r

/-! the caller's side: the callee's names are turned into the caller's -/
def verB : Box → Nat
  | .arr _ v _ => v
  | .frz v _ => v
  | _ => 0
mutual
def renA (σ : List (Nat × Nat)) (bc bx : List (Nat × Box)) : AV → AV
  | .osl id ver => cond (decide (verB (lookB id bx) ≤ ver)) (.osl (ren σ id) (ver - verB (lookB id bx) + verB (lookB (ren σ id) bc))) .top
  | .bp id off => .bp (ren σ id) off
  | .mp id => .mp (ren σ id)
  | .c d => .c d
  | .ag ds => .ag ds
  | .ip ds => .ip ds
  | .fn f cs => .fn f (renL σ bc bx cs)
  | .tp vs => .tp (renL σ bc bx vs)
  | _ => .top
def renL (σ : List (Nat × Nat)) (bc bx : List (Nat × Box)) : List AV → List AV
  | [] => []
  | v :: r => renA σ bc bx v :: renL σ bc bx r
end
/-- old caller's box, callee's box before, after -/
def reB (σ : List (Nat × Nat)) (bc bx : List (Nat × Box)) (vc v0 : Nat) : Box → Box
  | .dead => .dead
  | .cells cs => .cells (renL σ bc bx cs)
  | .arr e v xs => .arr e (v - v0 + vc) xs
  | .frz v xs => .frz (v - v0 + vc) xs
  | .map kt et es => .map kt et es
def reU (σ : List (Nat × Nat)) (bc bx : List (Nat × Box)) : List (Nat × Box) → Upd
  | [] => []
  | p :: r => (ren σ p.1, reB σ bc bx (verB (lookB (ren σ p.1) bc)) (verB (lookB p.1 bx)) p.2) :: reU σ bc bx r
def cellsTop : List AV → Bool
  | [] => true
  | v :: r => cond (cellAV v) (cellsTop r) false
/-- no cell has lost its meaning -/
def boxTop : Box → Bool
  | .cells cs => cellsTop cs
  | _ => true
def updTop : Upd → Bool
  | [] => true
  | p :: r => cond (boxTop p.2) (updTop r) false
def New1 : Box → Box → Prop
  | .dead, b => b = .dead
  | _, _ => True
def NewL (σ : List (Nat × Nat)) (bc bx : List (Nat × Box)) : List (Nat × Box) → Prop
  | [] => True
  | p :: r => New1 (lookB p.1 bx) (lookB (ren σ p.1) bc) ∧ NewL σ bc bx r
def CallMVC (P : Program) (E : Env) (f : Nat) (raw : List AV) (W : AV → Upd → S → Prop) (s : S) : Prop :=
  ∃ (args0 : List AV) (bx0 : List (Nat × Box)) (r : AV) (bx1 : List (Nat × Box)) (φ : List Nat) (σ : List (Nat × Nat)), OkM P E f args0 bx0 r bx1 ∧
    (FitL σ (frzB φ s.bx) bx0 raw args0 ∧ LeB σ ⟨s.fr, frzB φ s.bx⟩ bx0 bx0 ∧ nodupR σ bx0 [] = true ∧ nodupR σ bx1 [] = true ∧ NewL σ (frzB φ s.bx) bx0 bx1 ∧ updTop (reU σ (frzB φ s.bx) bx0 bx1) = true) ∧
    W (renA σ (frzB φ s.bx) bx0 r) (reU σ (frzB φ s.bx) bx0 bx1) ⟨s.fr, frzB φ s.bx⟩
def CallX (P : Program) (E : Env) (m : Bool) (d : Nat) (b : Box) (f : Nat) (args : List AV) (u : Upd) (raw : List AV) (W : AV → Upd → S → Prop) (s : S) : Prop :=
  (∃ r v' u2, Ok P E f args r ∧ resR d b r = some (v', u2) ∧ W v' (u2 ++ cond (isSc r) [] u) s) ∨ (m = true ∧ CallMVC P E f raw W s)
def stepR (P : Program) (E : Env) (m : Bool) (d : Nat) (b : Box) (W : AV → Upd → S → Prop) : R → S → Prop
  | .val v u, s => W v u s
  | .ob p r, s => p ∧ stepR P E m d b W r s
  | .br t x y, s => guardB s (stepR P E m d b W x) (stepR P E m d b W y) t
  | .call f args u raw, s => CallX P E m d b f args u raw W s
  | .callM f raw, s => m = true ∧ CallMVC P E f raw W s
  | .bad, _ => False
def nextP (d : Option Nat) (W : S → Prop) (v : AV) (u : Upd) (s : S) : Prop := W (putU s d v u)
def vcOps (P : Program) (E : Env) (m : Bool) (all : List Oper) (K : S → Prop) : List Oper → S → Prop
  | [], s => K s
  | o :: r, s => stepR P E m (dstN o.dst) (lookB (dstN o.dst) s.bx) (nextP o.dst (vcOps P E m all K r)) (opG E all s o) s

def keysU : Upd → List Nat
  | [] => []
  | p :: r => p.1 :: keysU r
abbrev Log := List (Nat × (List Nat × List Nat))
def logAt (i : Nat) : Log → List Nat × List Nat
  | [] => ([], [])
  | x :: r => cond (i == x.1) x.2 (logAt i r)
def disjN : List Nat → List Nat → Bool
  | [], _ => true
  | i :: r, l => cond (memN i l) false (disjN r l)
def susOK (log : Log) : List (Nat × Nat) → Bool
  | [] => true
  | p :: r => cond (disjN (logAt p.1 log).2 (logAt p.2 log).1) (cond (disjN (logAt p.2 log).2 (logAt p.1 log).1) (susOK log r) false) false
def nextL (d : Option Nat) (i : Nat) (t : List Nat) (log : Log) (W : Log → S → Prop) (v : AV) (u : Upd) (s : S) : Prop := W ((i, (t ++ keysU u, keysU u)) :: log) (putU s d v u)
def endL (sus : List (Nat × Nat)) (K : S → Prop) (log : Log) (s : S) : Prop := susOK log sus = true ∧ K s
def vcLog (P : Program) (E : Env) (all : List Oper) (K : Log → S → Prop) : Nat → List Oper → Log → S → Prop
  | _, [], log, s => K log s
  | i, o :: r, log, s => stepR P E false (dstN o.dst) (lookB (dstN o.dst) s.bx) (nextL o.dst i (dstN o.dst :: refsL ((rd o.op).map (ev s.fr))) log (vcLog P E all K (i + 1) r)) (opG E all s o) s
abbrev Sus := List (Nat × List (Nat × Nat))
def susOf (id : Nat) : Sus → List (Nat × Nat)
  | [] => []
  | p :: r => cond (id == p.1) p.2 (susOf id r)
def vcD (P : Program) (E : Env) (ops : List Oper) (K : S → Prop) (s : S) : List (Nat × Nat) → Prop
  | [] => vcOps P E false ops K ops s
  | p :: r => vcLog P E ops (endL (p :: r) K) 0 ops [] s

def thenQ (K : S → Prop) (Q : Exit → S → Prop) : Exit → S → Prop
  | .normal, s => K s
  | e, s => Q e s
def blockQ (id : Nat) (Q : Exit → S → Prop) : Exit → S → Prop
  | .exit i, s => cond (i == id) (Q .normal s) (Q (.exit i) s)
  | e, s => Q e s
def condA (a b : S → Prop) (s : S) : AV → Prop
  | .c (.sc (.bool t)) => guardB s a b t
  | _ => False

def Into (ρ : List (Nat × Nat)) (s s0 : S) : Prop := LeF ρ s s0.bx s0.fr ∧ LeB ρ s s0.bx s0.bx ∧ nodupR ρ s0.bx [] = true
/-- slot, name, element type -/
def OwnsOK (E : Env) : List (Nat × (Nat × Nat)) → S → Prop
  | [], _ => True
  | g :: r, s => look g.1 s.fr = .c (.sc (.slice none 0 0)) ∧ lookB g.2.1 s.bx = .dead ∧ (E g.2.2).isSome = true ∧ OwnsOK E r ⟨(g.1, .osl g.2.1 0) :: s.fr, (g.2.1, .arr g.2.2 0 []) :: s.bx⟩
def ownS : List (Nat × (Nat × Nat)) → S → S
  | [], s => s
  | g :: r, s => ownS r ⟨(g.1, .osl g.2.1 0) :: s.fr, (g.2.1, .arr g.2.2 0 []) :: s.bx⟩
def PinV (id idr : Nat) : Box → Box → Box → Prop
  | .dead, _, _ => True
  | .cells _, _, .cells _ => idr = id
  | .map _ _ _, _, .map _ _ _ => idr = id
  | .arr _ n _, .arr _ v _, .arr _ v' _ => (idr = id ∧ v' = v) ∨ n < v'
  | .arr _ n _, .frz v _, .frz v' _ => (idr = id ∧ v' = v) ∨ n < v'
  | .frz _ _, .frz v _, .frz v' _ => idr = id ∧ v' = v
  | _, _, _ => False
def PinL (ρ : List (Nat × Nat)) (bx bx0 : List (Nat × Box)) : List (Nat × Box) → Prop
  | [] => True
  | p :: r => PinV p.1 (ren ρ p.1) p.2 (lookB (ren ρ p.1) bx) (lookB p.1 bx0) ∧ PinL ρ bx bx0 r
def frzS (φ : List Nat) (s : S) : S := ⟨s.fr, frzB φ s.bx⟩
def Enter (E : Env) (pb : List (Nat × Box)) (s s0 : S) : Prop := ∃ gs φ ρ, OwnsOK E gs s ∧ Into ρ (frzS φ (ownS gs s)) s0 ∧ PinL ρ (frzS φ (ownS gs s)).bx s0.bx pb
theorem Enter.mk {E : Env} {pb : List (Nat × Box)} {s s0 : S} (gs : List (Nat × (Nat × Nat))) (φ : List Nat) (ρ : List (Nat × Nat)) (h : OwnsOK E gs s ∧ Into ρ (frzS φ (ownS gs s)) s0 ∧ PinL ρ (frzS φ (ownS gs s)).bx s0.bx pb) : Enter E pb s s0 := ⟨gs, φ, ρ, h⟩
theorem Enter.id {E : Env} {s s0 : S} (h : Into [] s s0) : Enter E [] s s0 := ⟨[], [], [], trivial, h, trivial⟩

def Back (E : Env) (pb : List (Nat × Box)) {Y : Type} (inv : Y → Prop) (st : Y → S) (μ : Y → Nat) (y : Y) (s2 : S) : Prop := ∃ y', Enter E pb s2 (st y') ∧ inv y' ∧ μ y' < μ y
def LoopVC (E : Env) (pb : List (Nat × Box)) (W : (Exit → S → Prop) → S → Prop) (Q : Exit → S → Prop) (s : S) : Prop :=
  ∃ (Y : Type) (inv : Y → Prop) (st : Y → S) (μ : Y → Nat) (Q2 : Exit → S → Prop), (∃ y, Enter E pb s (st y) ∧ inv y) ∧ (∀ e s, Q2 e s → Q e s ∨ ∃ s', Enter E pb s s' ∧ Q e s') ∧ ∀ y, inv y → W (thenQ (Back E pb inv st μ y) Q2) (st y)
theorem LoopVC.mk {E : Env} {pb : List (Nat × Box)} {Y : Type} {W : (Exit → S → Prop) → S → Prop} {Q : Exit → S → Prop} {s : S} (inv : Y → Prop) (st : Y → S) (μ : Y → Nat)
    (h0 : ∃ y, Enter E pb s (st y) ∧ inv y) (h : ∀ y, inv y → W (thenQ (Back E pb inv st μ y) Q) (st y)) : LoopVC E pb W Q s := ⟨Y, inv, st, μ, Q, h0, fun _ _ h => .inl h, h⟩
/-- a loop whose way out is cut: at the exit i the state is one of 'stz' -/
def Out (E : Env) (pb : List (Nat × Box)) {Z : Type} (invz : Z → Prop) (stz : Z → S) (s : S) : Prop := ∃ z, Enter E pb s (stz z) ∧ invz z
def cutQ (i : Nat) (K : S → Prop) (Q : Exit → S → Prop) : Exit → S → Prop
  | .exit j, s => cond (i == j) (K s) (Q (.exit j) s)
  | e, s => Q e s
theorem LoopVC.cut {E : Env} {pb : List (Nat × Box)} {Y Z : Type} {W : (Exit → S → Prop) → S → Prop} {Q : Exit → S → Prop} {s : S} (i : Nat) (inv : Y → Prop) (st : Y → S) (μ : Y → Nat) (invz : Z → Prop) (stz : Z → S)
    (h0 : ∃ y, Enter E pb s (st y) ∧ inv y) (h : ∀ y, inv y → W (thenQ (Back E pb inv st μ y) (cutQ i (Out E pb invz stz) Q)) (st y)) (hz : ∀ z, invz z → Q (.exit i) (stz z)) : LoopVC E pb W Q s := by
  refine ⟨Y, inv, st, μ, _, h0, fun e s hq => ?_, h⟩
  cases e with
  | exit j =>
    simp only [cutQ] at hq
    cases hj : (i == j) with
    | true =>
      rw [hj] at hq
      obtain ⟨z, he, hi⟩ := hq
      rw [show j = i from (by simpa using hj : i = j).symm]
      exact .inr ⟨_, he, hz z hi⟩
    | false =>
      rw [hj] at hq
      exact .inl hq
  | normal => exact .inl hq
  | goto l => exact .inl hq
  | ret => exact .inl hq
  | panic ch => exact .inl hq
  | outgrown => exact .inl hq

def vc (P : Program) (E : Env) (L : Sus) (pb : List (Nat × Box)) : Code → (Exit → S → Prop) → S → Prop
  | .skip, Q, s => Q .normal s
  | .region id ops dr, Q, s => cond dr (vcD P E ops.toList (Q .normal) s (susOf id L)) (vcOps P E true ops.toList (Q .normal) ops.toList s)
  | .seq a b, Q, s => vc P E L pb a (thenQ (vc P E L pb b Q) Q) s
  | .cond c a b, Q, s => condA (vc P E L pb a Q) (vc P E L pb b Q) s (ev s.fr c)
  | .block id c, Q, s => vc P E L pb c (blockQ id Q) s
  | .loop c, Q, s => LoopVC E pb (vc P E L pb c) Q s
  | .exit i, Q, s => Q (.exit i) s
  | .ret, Q, s => Q .ret s
  | _, _, _ => False

theorem guardB.mk {s : S} {a b : S → Prop} {t : Bool} (h : t = true → a s) (h' : t = false → b s) : guardB s a b t := by
  cases t
  · exact h' rfl
  · exact h rfl
theorem CallX.mk {P : Program} {E : Env} {m : Bool} {d : Nat} {b : Box} {f : Nat} {args : List AV} {u : Upd} {raw : List AV} {W : AV → Upd → S → Prop} {s : S} {r v' : AV} {u2 : Upd} (h : Ok P E f args r) (h1 : resR d b r = some (v', u2)) (h2 : W v' (u2 ++ cond (isSc r) [] u) s) :
    CallX P E m d b f args u raw W s := .inl ⟨r, v', u2, h, h1, h2⟩
theorem CallMVC.mk {P : Program} {E : Env} {f : Nat} {raw : List AV} {W : AV → Upd → S → Prop} {s : S} {args0 : List AV} {bx0 : List (Nat × Box)} {r : AV} {bx1 : List (Nat × Box)} (φ : List Nat) (σ : List (Nat × Nat)) (h : OkM P E f args0 bx0 r bx1)
    (h1 : FitL σ (frzB φ s.bx) bx0 raw args0 ∧ LeB σ ⟨s.fr, frzB φ s.bx⟩ bx0 bx0 ∧ nodupR σ bx0 [] = true ∧ nodupR σ bx1 [] = true ∧ NewL σ (frzB φ s.bx) bx0 bx1 ∧ updTop (reU σ (frzB φ s.bx) bx0 bx1) = true)
    (h2 : W (renA σ (frzB φ s.bx) bx0 r) (reU σ (frzB φ s.bx) bx0 bx1) ⟨s.fr, frzB φ s.bx⟩) : CallMVC P E f raw W s := ⟨args0, bx0, r, bx1, φ, σ, h, h1, h2⟩
theorem CallX.mut {P : Program} {E : Env} {d : Nat} {b : Box} {f : Nat} {args : List AV} {u : Upd} {raw : List AV} {W : AV → Upd → S → Prop} {s : S} (h : CallMVC P E f raw W s) : CallX P E true d b f args u raw W s := .inr ⟨rfl, h⟩

/-! what is handed back -/
def RetC : Option (D × Upd) → D → Prop
  | some p, d => p.1 = d
  | none, _ => False
def RetB (e ver : Nat) (xs : List (List D)) : Box → Prop
  | .arr e' v' xs' => e' = e ∧ v' = ver ∧ xs' = xs
  | _ => False
def RetF (E : Env) (e : Nat) (xs : List (List D)) (bx : List (Nat × Box)) : AV → Prop
  | .osl id ver => RetB e ver xs (lookB id bx)
  | .c (.sc (.slice none 0 0)) => xs = [] ∧ (E e).isSome = true
  | _ => False
def Ret1 (E : Env) (bx : List (Nat × Box)) (v : AV) : AV → Prop
  | .c d => RetC (toD bx v) d
  | .ag ds => v = .ag ds
  | .fr e xs => RetF E e xs bx v
  | _ => False
def frIds : List AV → List AV → List Nat
  | .osl id _ :: vs, .fr _ _ :: rs => id :: frIds vs rs
  | _ :: vs, _ :: rs => frIds vs rs
  | _, _ => []
def toDK : Option (D × Upd) → List Nat
  | some p => keysU p.2
  | none => []
def frzIds (bx : List (Nat × Box)) : List AV → List AV → List Nat
  | v :: vs, .c _ :: rs => toDK (toD bx v) ++ frzIds bx vs rs
  | _ :: vs, _ :: rs => frzIds bx vs rs
  | _, _ => []
def RetL (E : Env) (bx : List (Nat × Box)) : List AV → List AV → Prop
  | [], [] => True
  | v :: vs, r :: rs => Ret1 E bx v r ∧ RetL E bx vs rs
  | _, _ => False
def RetT (E : Env) (bx : List (Nat × Box)) (vs : List AV) : AV → Prop
  | .tp rs => RetL E bx vs rs ∧ disjN (frIds vs rs) (frzIds bx vs rs) = true
  | _ => False
def RetVC (E : Env) (r : AV) (bx : List (Nat × Box)) : List AV → Prop
  | [v] => Ret1 E bx v r
  | vs => RetT E bx vs r
def retQ (E : Env) (ts : List Nat) (r : AV) : Exit → S → Prop
  | .normal, s => RetVC E r s.bx (ts.map (look · s.fr))
  | .ret, s => RetVC E r s.bx (ts.map (look · s.fr))
  | _, _ => False
def zipR : List Nat → List AV → List (Nat × AV)
  | t :: ts, r :: rs => (t, r) :: zipR ts rs
  | _, _ => []
def retFr : List Nat → AV → Option (List (Nat × AV))
  | [t], r => some [(t, r)]
  | ts, .tp rs => cond (ts.length == rs.length) (some (zipR ts rs)) none
  | _, _ => none
def RetM (E : Env) (pb bx1 : List (Nat × Box)) (s : S) : Option (List (Nat × AV)) → Prop
  | some fr => Enter E pb s ⟨fr, bx1⟩
  | none => False
def retM (E : Env) (pb : List (Nat × Box)) (ts : List Nat) (r : AV) (bx1 : List (Nat × Box)) : Exit → S → Prop
  | .normal, s => RetM E pb bx1 s (retFr ts r)
  | .ret, s => RetM E pb bx1 s (retFr ts r)
  | _, _ => False
def frOf : Nat → List AV → List (Nat × AV)
  | _, [] => []
  | i, v :: r => (i, v) :: frOf (i + 1) r
def argsS (args : List AV) : S := ⟨frOf 0 args, []⟩

/-! ### a region's conditions give a path -/
theorem stepR_gets {P : Program} {E : Env} {d : Nat} {b : Box} {W : AV → Upd → S → Prop} : ∀ {r : R} {s : S}, stepR P E false d b W r s → ∃ v u, Gets P E d b r v u ∧ W v u s
  | .val v u, s, h => ⟨v, u, ⟨rfl, rfl⟩, h⟩
  | .ob p r, s, h => by
    obtain ⟨v, u, hg, hw⟩ := stepR_gets (r := r) h.2
    exact ⟨v, u, ⟨h.1, hg⟩, hw⟩
  | .br t x y, s, h => by
    cases t
    · obtain ⟨v, u, hg, hw⟩ := stepR_gets (r := y) h
      exact ⟨v, u, .inr ⟨rfl, hg⟩, hw⟩
    · obtain ⟨v, u, hg, hw⟩ := stepR_gets (r := x) h
      exact ⟨v, u, .inl ⟨rfl, hg⟩, hw⟩
  | .call f args u raw, s, h => by
    rcases h with ⟨r, v', u2, h1, h2, h3⟩ | ⟨h, _⟩
    · exact ⟨v', _, ⟨r, u2, h1, h2, rfl⟩, h3⟩
    · cases h
  | .callM f raw, s, h => by
    obtain ⟨h, _⟩ := h
    cases h
  | .bad, _, h => h.elim

theorem vcOps_path {P : Program} {E : Env} {all : List Oper} {K : S → Prop} : ∀ {l : List Oper} {s : S}, vcOps P E false all K l s → ∃ outs s', Path P E all l s outs s' ∧ K s'
  | [], s, h => ⟨[], s, .nil s, h⟩
  | o :: r, s, h => by
    obtain ⟨v, u, hg, hw⟩ := stepR_gets h
    obtain ⟨outs, s', hp, hk⟩ := vcOps_path (l := r) hw
    exact ⟨(v, u) :: outs, s', .cons o r s v u outs s' hg hp, hk⟩

def logOf : Nat → List Oper → Outs → S → Log → Log
  | i, o :: r, x :: outs, s, log => logOf (i + 1) r outs (putU s o.dst x.1 x.2) ((i, ((dstN o.dst :: refsL ((rd o.op).map (ev s.fr))) ++ keysU x.2, keysU x.2)) :: log)
  | _, _, _, _, log => log

theorem vcLog_path {P : Program} {E : Env} {all : List Oper} {K : Log → S → Prop} : ∀ {l : List Oper} {i : Nat} {log : Log} {s : S}, vcLog P E all K i l log s → ∃ outs s', Path P E all l s outs s' ∧ K (logOf i l outs s log) s'
  | [], i, log, s, h => ⟨[], s, .nil s, h⟩
  | o :: r, i, log, s, h => by
    obtain ⟨v, u, hg, hw⟩ := stepR_gets h
    obtain ⟨outs, s', hp, hk⟩ := vcLog_path (l := r) hw
    exact ⟨(v, u) :: outs, s', .cons o r s v u outs s' hg hp, hk⟩

theorem logAt_old : ∀ (l : List Oper) (outs : Outs) (i : Nat) (s : S) (log : Log) (j : Nat), j < i → logAt j (logOf i l outs s log) = logAt j log
  | [], _, _, _, _, _, _ => by unfold logOf; rfl
  | o :: r, [], _, _, _, _, _ => by unfold logOf; rfl
  | o :: r, x :: outs, i, s, log, j, hj => by
    rw [logOf, logAt_old r outs (i + 1) _ _ j (by omega)]
    simp only [logAt]
    rw [show (j == i) = false from by simp; omega, cond_false]

theorem keysU_map : ∀ u : Upd, keysU u = u.map (·.1)
  | [] => rfl
  | p :: r => by rw [keysU, keysU_map r]; rfl

theorem logAt_new : ∀ (l : List Oper) (outs : Outs) (i : Nat) (s : S) (log : Log) (j : Nat) (o : Oper) (x : AV × Upd), l[j]? = some o → outs[j]? = some x →
    logAt (i + j) (logOf i l outs s log) = (touched (appL (fun k => decide (k < i + j)) i l outs s) o x.2, x.2.map (·.1))
  | [], _, _, _, _, _, _, _, h, _ => by simp at h
  | _ :: _, [], _, _, _, _, _, _, _, h => by simp at h
  | o0 :: r, x0 :: outs, i, s, log, 0, o, x, h1, h2 => by
    simp only [List.getElem?_cons_zero, Option.some.injEq] at h1 h2
    subst h1; subst h2
    rw [logOf, logAt_old r outs (i + 1) _ _ _ (by omega), appL_none _ _ _ _ fun j hj => by simp; omega]
    simp only [logAt, Nat.add_zero, BEq.rfl, cond_true, keysU_map, touched, List.cons_append]
  | o0 :: r, x0 :: outs, i, s, log, j + 1, o, x, h1, h2 => by
    simp only [List.getElem?_cons_succ] at h1 h2
    have := logAt_new r outs (i + 1) (putU s o0.dst x0.1 x0.2) ((i, ((dstN o0.dst :: refsL ((rd o0.op).map (ev s.fr))) ++ keysU x0.2, keysU x0.2)) :: log) j o x h1 h2
    rw [logOf, show i + (j + 1) = i + 1 + j by omega, this, appL, show decide (i < i + 1 + j) = true from by simp; omega, cond_true]

theorem memN_iff : ∀ {l : List Nat} {i : Nat}, memN i l = true ↔ i ∈ l
  | [], i => by simp [memN]
  | j :: r, i => by
    by_cases h : i = j
    · simp [memN, h]
    · have h' : (i == j) = false := by simpa using h
      simp [memN, h', h, memN_iff]
theorem disjN_spec : ∀ {l m : List Nat}, disjN l m = true → ∀ i ∈ l, i ∉ m
  | [], _, _, i, hi => by cases hi
  | j :: r, m, h, i, hi => by
    simp only [disjN] at h
    cases hm : memN j m with
    | true => rw [hm] at h; cases h
    | false =>
      rw [hm] at h
      rcases List.mem_cons.1 hi with rfl | hi
      · intro hh
        rw [memN_iff.2 hh] at hm; cases hm
      · exact disjN_spec h i hi
theorem susOK_spec {log : Log} : ∀ {sus : List (Nat × Nat)}, susOK log sus = true → ∀ i j, (i, j) ∈ sus → (∀ id ∈ (logAt i log).2, id ∉ (logAt j log).1) ∧ ∀ id ∈ (logAt j log).2, id ∉ (logAt i log).1
  | [], _, i, j, h => by cases h
  | p :: r, h, i, j, hm => by
    simp only [susOK] at h
    cases h1 : disjN (logAt p.1 log).2 (logAt p.2 log).1 <;> rw [h1] at h
    · cases h
    · cases h2 : disjN (logAt p.2 log).2 (logAt p.1 log).1 <;> rw [h2] at h
      · cases h
      · rcases List.mem_cons.1 hm with he | hm
        · subst he
          exact ⟨disjN_spec h1, disjN_spec h2⟩
        · exact susOK_spec h i j hm

def dstsB (n : Nat) (l : List Oper) : Bool := l.all fun o => match o.dst with | some d => decide (d < n) | none => true
def codeB (n : Nat) (L : Sus) : Code → Bool
  | .region id ops dr => dstsB n ops.toList && (!dr || orderB ops.toList (susOf id L))
  | .seq a b => codeB n L a && codeB n L b
  | .cond _ a b => codeB n L a && codeB n L b
  | .block _ c => codeB n L c
  | .loop c => codeB n L c
  | _ => true

section
variable {X : Ctx} {s : S} {a : Act} {w : World} {β : Nat → Value}

theorem dsts_of {n : Nat} {l : List Oper} (h : dstsB n l = true) (i : Nat) (o : Oper) (d : Nat) (hi : l[i]? = some o) (hd : o.dst = some d) : d < n := by
  have := List.all_eq_true.1 h o (List.mem_of_getElem? hi)
  rw [hd] at this
  simpa using this

end
end Go.Vx
end

section
set_option linter.unusedVariables false
namespace Go.Vx
open Go Go.RowKit

section
variable {X : Ctx} {s s0 : S} {a : Act} {w : World} {β : Nat → Value} {ρ : List (Nat × Nat)}

theorem SameO.cases {ver ver0 : Nat} {b b0 : Box} (h : SameO ver ver0 b b0) : (∃ e xs, b = .arr e ver xs ∧ b0 = .arr e ver0 xs) ∨ (∃ xs, b = .frz ver xs ∧ b0 = .frz ver0 xs) := by
  cases b <;> cases b0 <;> simp only [SameO] at h <;> try (exact h.elim)
  · obtain ⟨rfl, rfl, rfl, rfl⟩ := h
    exact .inl ⟨_, _, rfl, rfl⟩
  · obtain ⟨rfl, rfl, rfl⟩ := h
    exact .inr ⟨_, rfl, rfl⟩
theorem bothC.cases {b b0 : Box} (h : bothC b b0) : (∃ cs, b = .cells cs) ∧ ∃ cs, b0 = .cells cs := by
  cases b <;> cases b0 <;> simp only [bothC] at h <;> try (exact h.elim)
  exact ⟨⟨_, rfl⟩, ⟨_, rfl⟩⟩

theorem bothM.cases {b b0 : Box} (h : bothM b b0) : (∃ kt et es, b = .map kt et es) ∧ ∃ kt et es, b0 = .map kt et es := by
  cases b <;> cases b0 <;> simp only [bothM] at h <;> try (exact h.elim)
  exact ⟨⟨_, _, _, rfl⟩, ⟨_, _, _, rfl⟩⟩

/-- frozen boxes are by value -/
def FrzV (w : World) (M : Nat → Prop) (β : Nat → Value) (bx : List (Nat × Box)) : Prop := ∀ id v xs, lookB id bx = .frz v xs → Rp w M (β id) (.sl xs)

theorem FitV0.rv {bx bx0 : List (Nat × Box)} {M M' : Nat → Prop} {v : Value} {av av0 : AV} (hf : FitV0 ρ bx bx0 av av0) (hz : FrzV w M β bx) (hM : ∀ k, M' k → M k) (hv : RV w M β (lookB · bx) v av) : RV w M' (fun i => β (ren ρ i)) (lookB · bx0) v av0 := by
  have hk : Kept w M w M' := fun k _ hn => ⟨rfl, fun hm => hn (hM k hm)⟩
  cases av0 with
  | top => exact .top v
  | c d =>
    simp only [FitV0] at hf
    unfold FitC at hf
    split at hf
    · have hvn : v = .slice none 0 0 := by cases hv.to_c; rfl
      subst hvn
      rcases hf with rfl | rfl
      · exact .c _ _ (.sc _ rfl)
      · exact .c _ _ (Rp.nil _ _)
    · subst hf
      exact .c _ _ (hv.to_c.keep hk)
    · rename_i id ver
      cases hv with
      | osl _ _ _ h1 hok =>
        cases hb : lookB id bx <;> rw [hb] at hf hok <;> simp only [FitZ] at hf <;> try (exact hf.elim)
        obtain ⟨rfl, rfl⟩ := hf
        rw [hok.2 rfl]
        exact .c _ _ ((hz id _ _ hb).keep hk)
    · exact hf.elim
  | ag ds =>
    simp only [FitV0] at hf
    subst hf
    cases hv with
    | ag cs _ hs h => exact .ag cs ds hs fun j d hd => (h j d hd).keep hk
  | ip ds =>
    simp only [FitV0] at hf
    subst hf
    cases hv with
    | ip ad _ cell hb hn hcell h => exact .ip ad ds cell hb (fun hm => hn (hM _ hm)) hcell fun j d hd => (h j d hd).keep hk
  | fn f cs =>
    cases cs with
    | nil =>
      simp only [FitV0] at hf
      subst hf
      cases hv with
      | fn _ caps _ hs h => exact .fn f caps [] hs fun j av hj => by simp at hj
    | cons _ _ => exact hf.elim
  | osl id0 ver0 =>
    simp only [FitV0] at hf
    cases av <;> simp only [FitO] at hf <;> try (exact hf.elim)
    rename_i id ver
    obtain ⟨rfl, hso⟩ := hf
    cases hv with
    | osl _ _ _ h1 hok =>
      refine .osl id0 ver0 v h1 ?_
      rcases hso.cases with ⟨e, xs, e1, e2⟩ | ⟨xs, e1, e2⟩
      · simp only [e1] at hok
        simp only [e2]
        exact ⟨Nat.le_refl _, fun _ => hok.2 rfl⟩
      · simp only [e1] at hok
        simp only [e2]
        exact ⟨Nat.le_refl _, fun _ => hok.2 rfl⟩
  | bp id0 off0 =>
    simp only [FitV0] at hf
    cases av <;> simp only [FitP] at hf <;> try (exact hf.elim)
    obtain ⟨rfl, rfl, hbc⟩ := hf
    obtain ⟨⟨cs, e1⟩, ⟨cs0, e2⟩⟩ := hbc.cases
    cases hv with
    | bp _ _ g cs' hl hb => exact .bp id0 _ g cs0 e2 hb
  | mp id0 =>
    simp only [FitV0] at hf
    cases av <;> simp only [FitM] at hf <;> try (exact hf.elim)
    obtain ⟨rfl, hbc⟩ := hf
    obtain ⟨⟨kt, et, es, e1⟩, ⟨kt0, et0, es0, e2⟩⟩ := hbc.cases
    cases hv with
    | mp _ g kt' et' es' hl hb => exact .mp id0 g kt0 et0 es0 e2 hb
  | tp vs => exact hf.elim
  | op id ver i sz off => exact hf.elim
  | fr e xs => exact hf.elim

theorem FitL0.at {bx bx0 : List (Nat × Box)} : ∀ {cs cs0 : List AV}, FitL0 ρ bx bx0 cs cs0 → cs.length = cs0.length ∧ ∀ (j : Nat) av0, cs0[j]? = some av0 → ∃ av, cs[j]? = some av ∧ FitV0 ρ bx bx0 av av0
  | [], [], _ => ⟨rfl, fun j av0 h => by simp at h⟩
  | [], _ :: _, h => h.elim
  | _ :: _, [], h => h.elim
  | v :: r, v0 :: r0, h => by
    obtain ⟨h1, h2⟩ := FitL0.at (cs := r) h.2
    refine ⟨by simp [h1], fun j av0 hj => ?_⟩
    cases j with
    | zero =>
      simp only [List.getElem?_cons_zero, Option.some.injEq] at hj
      subst hj
      exact ⟨v, rfl, h.1⟩
    | succ j => exact h2 j av0 (by simpa using hj)

theorem FitV.rv {bx bx0 : List (Nat × Box)} {M M' : Nat → Prop} {v : Value} {av av0 : AV} (hf : FitV ρ bx bx0 av av0) (hz : FrzV w M β bx) (hM : ∀ k, M' k → M k) (hv : RV w M β (lookB · bx) v av) : RV w M' (fun i => β (ren ρ i)) (lookB · bx0) v av0 := by
  cases av0 with
  | fn f cs0 =>
    simp only [FitV] at hf
    cases av <;> simp only [FitF] at hf <;> try (exact hf.elim)
    rename_i f' cs
    obtain ⟨rfl, hl⟩ := hf
    obtain ⟨hlen, hat⟩ := FitL0.at hl
    cases hv with
    | fn _ caps _ hs h =>
      refine .fn _ caps cs0 (hs.trans hlen) fun j av0 hj => ?_
      obtain ⟨av, ha, hfv⟩ := hat j av0 hj
      exact hfv.rv hz hM (h j av ha)
  | top => exact FitV0.rv (av0 := .top) hf hz hM hv
  | c d => exact FitV0.rv (av0 := .c d) hf hz hM hv
  | ag ds => exact FitV0.rv (av0 := .ag ds) hf hz hM hv
  | ip ds => exact FitV0.rv (av0 := .ip ds) hf hz hM hv
  | osl id0 ver0 => exact FitV0.rv (av0 := .osl id0 ver0) hf hz hM hv
  | bp id0 off0 => exact FitV0.rv (av0 := .bp id0 off0) hf hz hM hv
  | mp id0 => exact FitV0.rv (av0 := .mp id0) hf hz hM hv
  | tp vs => exact hf.elim
  | op id ver i sz off => exact hf.elim
  | fr e xs => exact hf.elim

theorem FitL.at {bx bx0 : List (Nat × Box)} : ∀ {cs cs0 : List AV}, FitL ρ bx bx0 cs cs0 → cs.length = cs0.length ∧ ∀ (j : Nat) av0, cs0[j]? = some av0 → ∃ av, cs[j]? = some av ∧ FitV ρ bx bx0 av av0
  | [], [], _ => ⟨rfl, fun j av0 h => by simp at h⟩
  | [], _ :: _, h => h.elim
  | _ :: _, [], h => h.elim
  | v :: r, v0 :: r0, h => by
    obtain ⟨h1, h2⟩ := FitL.at (cs := r) h.2
    refine ⟨by simp [h1], fun j av0 hj => ?_⟩
    cases j with
    | zero =>
      simp only [List.getElem?_cons_zero, Option.some.injEq] at hj
      subst hj
      exact ⟨v, rfl, h.1⟩
    | succ j => exact h2 j av0 (by simpa using hj)

theorem LeB_at : ∀ {l : List (Nat × Box)}, LeB ρ s s0.bx l → ∀ id0, lookB id0 l = .dead ∨ FitB ρ s.bx s0.bx (lookB (ren ρ id0) s.bx) (lookB id0 l)
  | [], _, id0 => .inl rfl
  | p :: r, h, id0 => by
    rw [lookB_cons]
    by_cases hi : id0 = p.1
    · rw [if_pos hi, hi]; exact .inr h.1
    · rw [if_neg hi]; exact LeB_at h.2 id0
theorem LeF_at : ∀ {l : List (Nat × AV)}, LeF ρ s s0.bx l → ∀ i, FitV ρ s.bx s0.bx (look i s.fr) (look i l)
  | [], _, i => trivial
  | p :: r, h, i => by
    rw [look_cons]
    by_cases hi : i = p.1
    · rw [if_pos hi, hi]; exact h.1
    · rw [if_neg hi]; exact LeF_at h.2 i

theorem nodupR_notin : ∀ {l : List (Nat × Box)} {seen : List Nat}, nodupR ρ l seen = true → ∀ i, (∃ b, (i, b) ∈ l) → ren ρ i ∉ seen
  | [], _, _, i, ⟨b, h⟩ => by cases h
  | p :: r, seen, h, i, ⟨b, hb⟩ => by
    simp only [nodupR] at h
    cases hm : memN (ren ρ p.1) seen <;> rw [hm] at h
    · rcases List.mem_cons.1 hb with he | hb
      · subst he
        intro hh
        rw [memN_iff.2 hh] at hm; cases hm
      · intro hh
        exact nodupR_notin h i ⟨b, hb⟩ (List.mem_cons_of_mem _ hh)
    · cases h
theorem nodupR_inj : ∀ {l : List (Nat × Box)} {seen : List Nat}, nodupR ρ l seen = true → ∀ i j, (∃ b, (i, b) ∈ l) → (∃ b, (j, b) ∈ l) → ren ρ i = ren ρ j → i = j
  | [], _, _, i, j, ⟨b, h⟩, _, _ => by cases h
  | p :: r, seen, h, i, j, ⟨b, hb⟩, ⟨b', hb'⟩, he => by
    simp only [nodupR] at h
    cases hm : memN (ren ρ p.1) seen <;> rw [hm] at h
    · simp only [cond_false] at h
      rcases List.mem_cons.1 hb with h1 | h1 <;> rcases List.mem_cons.1 hb' with h2 | h2
      · rw [← h1] at h2
        exact (congrArg Prod.fst h2).symm
      · exact (nodupR_notin h j ⟨b', h2⟩ (by rw [← he, ← h1]; exact List.mem_cons_self ..)).elim
      · exact (nodupR_notin h i ⟨b, h1⟩ (by rw [he, ← h2]; exact List.mem_cons_self ..)).elim
      · exact nodupR_inj h i j ⟨b, h1⟩ ⟨b', h2⟩ he
    · cases h
theorem lookB_mem {id : Nat} : ∀ {l : List (Nat × Box)}, lookB id l ≠ .dead → ∃ b, (id, b) ∈ l
  | [], h => (h rfl).elim
  | p :: r, h => by
    rw [lookB_cons] at h
    by_cases hi : id = p.1
    · exact ⟨p.2, by rw [hi]; exact List.mem_cons_self ..⟩
    · rw [if_neg hi] at h
      obtain ⟨b, hb⟩ := lookB_mem h
      exact ⟨b, List.mem_cons_of_mem _ hb⟩

theorem FitCs.at {bx bx0 : List (Nat × Box)} : ∀ {cs cs0 : List AV}, FitCs ρ bx bx0 cs cs0 → cs.length = cs0.length ∧ ∀ (j : Nat) av0, cs0[j]? = some av0 → ∃ av, cs[j]? = some av ∧ FitV ρ bx bx0 av av0 ∧ cellAV av0 = true
  | [], [], _ => ⟨rfl, fun j av0 h => by simp at h⟩
  | [], _ :: _, h => h.elim
  | _ :: _, [], h => h.elim
  | v :: r, v0 :: r0, h => by
    obtain ⟨h1, h2⟩ := FitCs.at (cs := r) h.2
    refine ⟨by simp [h1], fun j av0 hj => ?_⟩
    cases j with
    | zero =>
      simp only [List.getElem?_cons_zero, Option.some.injEq] at hj
      subst hj
      exact ⟨v, rfl, h.1⟩
    | succ j => exact h2 j av0 (by simpa using hj)

theorem Inv.frzV (h : Inv X s a w β) : FrzV w (Vx.MM X (lookB · s.bx) β) β s.bx := fun id v xs hl => by
  have := h.box id
  rw [hl] at this
  exact this

/-- boxes under new names -/
theorem LeB.mm {bx bx0 : List (Nat × Box)} (hB : LeB ρ ⟨s.fr, bx⟩ bx0 bx0) : (∀ id0, live (lookB id0 bx0) = true → live (lookB (ren ρ id0) bx) = true) := fun id0 hl => by
  rcases LeB_at (s := ⟨s.fr, bx⟩) (s0 := ⟨[], bx0⟩) hB id0 with hd | hb
  · rw [hd] at hl; cases hl
  · revert hb hl
    simp only []
    generalize lookB (ren ρ id0) bx = b
    generalize lookB id0 bx0 = b0
    intro hl hb
    cases b <;> cases b0 <;> first | rfl | (exact hb.elim) | (cases hl)

theorem LeB.boxes {Y : Ctx} (hE : Y.E = X.E) (hbox : ∀ id, BoxOK X w (MM X (lookB · s.bx) β) β (lookB · s.bx) id (lookB id s.bx)) (hown : ∀ id0 k, live (lookB id0 s0.bx) = true → blk (β (ren ρ id0)) = some k → Y.own k)
    (hB : LeB ρ s s0.bx s0.bx) (hMM : ∀ k, MM Y (lookB · s0.bx) (fun i => β (ren ρ i)) k → MM X (lookB · s.bx) β k) (id0 : Nat) :
    BoxOK Y w (MM Y (lookB · s0.bx) (fun i => β (ren ρ i))) (fun i => β (ren ρ i)) (lookB · s0.bx) id0 (lookB id0 s0.bx) := by
  have hk : Kept w (MM X (lookB · s.bx) β) w (MM Y (lookB · s0.bx) (fun i => β (ren ρ i))) := fun k _ hn => ⟨rfl, fun hm => hn (hMM k hm)⟩
  have hz : FrzV w (MM X (lookB · s.bx) β) β s.bx := fun id v xs hl => by
    have := hbox id
    rw [hl] at this
    exact this
  rcases LeB_at hB id0 with hd | hb
  · rw [hd]; trivial
  · have hbox := hbox (ren ρ id0)
    have hown := hown id0
    cases hb0 : lookB id0 s0.bx with
    | dead => trivial
    | cells cs0 =>
      rw [hb0] at hb hown
      cases hbb : lookB (ren ρ id0) s.bx <;> rw [hbb] at hb hbox <;> simp only [FitB] at hb <;> try (exact hb.elim)
      obtain ⟨hlen, hat⟩ := FitCs.at hb
      obtain ⟨g, el, conc, e1, e2, e3, e4, e5⟩ := hbox
      refine ⟨g, el, conc, e1, hown g rfl (by rw [e1]; rfl), e3, e4.trans hlen, fun j av0 hj => ?_⟩
      obtain ⟨av, ha, hf, hc⟩ := hat j av0 hj
      exact ⟨hc, hf.rv hz hMM (e5 j av ha).2⟩
    | arr e ver xs =>
      rw [hb0] at hb hown
      cases hbb : lookB (ren ρ id0) s.bx <;> rw [hbb] at hb hbox <;> simp only [FitB] at hb <;> try (exact hb.elim)
      obtain ⟨rfl, rfl⟩ := hb
      obtain ⟨te, flat, e1, e2, e3, e4, e5, e6⟩ := hbox
      exact ⟨te, flat, by rw [hE]; exact e1, e2, e3, e4, fun k hk => hown k rfl hk, fun i x j d hx hd => (e6 i x j d hx hd).keep hk⟩
    | frz ver xs =>
      rw [hb0] at hb
      cases hbb : lookB (ren ρ id0) s.bx <;> rw [hbb] at hb hbox <;> simp only [FitB] at hb <;> try (exact hb.elim)
      subst hb
      exact Rp.keep hbox hk
    | map kt et es =>
      rw [hb0] at hb hown
      cases hbb : lookB (ren ρ id0) s.bx <;> rw [hbb] at hb hbox <;> simp only [FitB] at hb <;> try (exact hb.elim)
      obtain ⟨rfl, rfl, rfl⟩ := hb
      obtain ⟨g, ents, clock, e1, e2, e3, e4, e5⟩ := hbox
      exact ⟨g, ents, clock, e1, hown g rfl (by rw [e1]; rfl), e3, e4, by rw [hE]; exact e5⟩

theorem PinL_at {bx bx0 : List (Nat × Box)} : ∀ {l : List (Nat × Box)}, PinL ρ bx bx0 l → ∀ id, lookB id l = .dead ∨ PinV id (ren ρ id) (lookB id l) (lookB (ren ρ id) bx) (lookB id bx0)
  | [], _, id => .inl rfl
  | p :: r, h, id => by
    rw [lookB_cons]
    by_cases hi : id = p.1
    · rw [if_pos hi, hi]; exact .inr h.1
    · rw [if_neg hi]; exact PinL_at h.2 id

theorem Inv.into (h : Inv X s a w β) (hi : Into ρ s s0) (hp : PinL ρ s.bx s0.bx X.pb) : Inv X s0 a w (fun i => β (ren ρ i)) := by
  obtain ⟨hF, hB, hN⟩ := hi
  have hlive := LeB.mm (s := s) hB
  have hMM : ∀ k, Vx.MM X (lookB · s0.bx) (fun i => β (ren ρ i)) k → Vx.MM X (lookB · s.bx) β k := fun k hk => by
    rcases hk with hk | ⟨id0, hl, hb⟩
    · exact .inl hk
    · exact .inr ⟨ren ρ id0, hlive id0 hl, hb⟩
  refine ⟨h.df, h.sz, h.keep, h.m0, fun id0 => LeB.boxes rfl h.box (fun id0 k hl hb => ((h.box (ren ρ id0)).lt (hlive id0 hl) hb).2) hB hMM id0, fun i j k hi hj hbi hbj => ?_, fun i => (LeF_at hF i).rv h.frzV hMM (h.fr i), fun id => ?_⟩
  · refine nodupR_inj hN i j (lookB_mem fun hd => ?_) (lookB_mem fun hd => ?_) (h.inj _ _ k (hlive i hi) (hlive j hj) hbi hbj)
    · rw [hd] at hi; cases hi
    · rw [hd] at hj; cases hj
  · rcases PinL_at hp id with hd | hv
    · rw [hd]; trivial
    · have h1 := h.pin id
      have h2 := h.pin (ren ρ id)
      have hbf := LeB_at hB id
      cases hpb : lookB id X.pb with
      | dead => trivial
      | cells cs =>
        rw [hpb] at hv h1
        cases hb0 : lookB id s0.bx <;> rw [hb0] at hv <;> simp only [PinV] at hv <;> try (exact hv.elim)
        rw [hv]
        exact ⟨⟨_, rfl⟩, h1.2⟩
      | map kt et es =>
        rw [hpb] at hv h1
        cases hb0 : lookB id s0.bx <;> rw [hb0] at hv <;> simp only [PinV] at hv <;> try (exact hv.elim)
        rw [hv]
        exact ⟨⟨_, _, _, rfl⟩, h1.2⟩
      | arr e n ys =>
        rw [hpb] at hv h1
        rcases hbf with hd | hbf
        · rw [hd] at hv
          cases hb1 : lookB (ren ρ id) s.bx <;> rw [hb1] at hv <;> exact hv.elim
        · cases hb1 : lookB (ren ρ id) s.bx <;> cases hb0 : lookB id s0.bx <;> rw [hb1, hb0] at hv hbf <;> simp only [PinV] at hv <;> try (exact hv.elim)
          · rename_i e1 v1 xs1 e0 v0 xs0
            obtain ⟨rfl, rfl⟩ := hbf
            rcases hv with ⟨he, rfl⟩ | hlt
            · rw [he] at hb1 ⊢
              rw [hb1] at h1
              rcases h1 with ⟨e', n', xs', hh, hn, hv'⟩ | ⟨n', xs', hh, _⟩
              · injection hh with g1 g2 g3
                subst g1; subst g2; subst g3
                exact .inl ⟨_, _, _, rfl, hn, hv'⟩
              · cases hh
            · exact .inl ⟨_, _, _, rfl, Nat.le_of_lt hlt, fun he => by omega⟩
          · rename_i v1 xs1 v0 xs0
            have hbf : xs1 = xs0 := hbf
            subst hbf
            rcases hv with ⟨he, rfl⟩ | hlt
            · rw [he] at hb1 ⊢
              rw [hb1] at h1
              rcases h1 with ⟨e', n', xs', hh, hn, hv'⟩ | ⟨n', xs', hh, hn, hv'⟩
              · cases hh
              · injection hh with g1 g2
                subst g1; subst g2
                exact .inr ⟨_, _, rfl, hn, hv'⟩
            · exact .inr ⟨_, _, rfl, Nat.le_of_lt hlt, fun he => by omega⟩
      | frz n ys =>
        rw [hpb] at hv h1
        cases hb1 : lookB (ren ρ id) s.bx <;> cases hb0 : lookB id s0.bx <;> rw [hb1, hb0] at hv <;> simp only [PinV] at hv <;> try (exact hv.elim)
        obtain ⟨he, rfl⟩ := hv
        rw [he] at hb1 ⊢
        rw [hb1] at h1
        obtain ⟨⟨xs', hh⟩, hv'⟩ := h1
        injection hh with g1 g2
        subst g1
        exact ⟨⟨_, rfl⟩, hv'⟩

/-- an empty slice is owned by whoever says so -/
theorem Inv.owns (hE : EnvOK X.P X.E) : ∀ (gs : List (Nat × (Nat × Nat))) {s : S} {β : Nat → Value}, OwnsOK X.E gs s → Inv X s a w β → ∃ β', Inv X (ownS gs s) a w β'
  | [], s, β, _, h => ⟨β, h⟩
  | g :: r, s, β, ho, h => by
    obtain ⟨h1, h2, h3, h4⟩ := ho
    cases hT : X.E g.2.2 with
    | none => rw [hT] at h3; cases h3
    | some te =>
      have hty := hE _ te hT
      have hch : Changed X s w β g.2.1 (.arr g.2.2 0 []) (.slice none 0 0) w :=
        ⟨rfl, rfl, rfl, Nat.le_refl _, fun _ _ _ => rfl, fun k _ hk => (by cases hk), by rw [h2]; trivial⟩
      have hinv := h.upd hch ⟨te, [], hT, hty.pos, by simp, by rw [upd1_same]; exact World.ownsRow_nil w 0 _ _, fun k hk => (by rw [upd1_same] at hk; cases hk), fun i x j d hx => (by simp at hx)⟩
      refine Inv.owns hE r (β := upd1 β g.2.1 (.slice none 0 0)) h4 ⟨hinv.df, hinv.sz, hinv.keep, hinv.m0, hinv.box, hinv.inj, fun i => ?_, hinv.pin⟩
      rw [look_cons]
      by_cases hi : i = g.1
      · rw [if_pos hi, hi]
        have hv := h.fr g.1
        rw [h1] at hv
        refine .osl _ _ _ hv.to_c.one ?_
        simp only [lookB_cons, if_true]
        refine ⟨Nat.le_refl _, fun _ => ?_⟩
        rw [upd1_same]
        generalize a.tmps.getD g.1 undef = vv at hv
        cases hv.to_c; rfl
      · rw [if_neg hi]
        exact hinv.fr i

theorem Inv.frzB : ∀ (φ : List Nat) {bx : List (Nat × Box)}, Inv X ⟨s.fr, bx⟩ a w β → Inv X ⟨s.fr, Vx.frzB φ bx⟩ a w β
  | [], bx, h => h
  | id :: r, bx, h => by
    unfold Vx.frzB
    refine Inv.frzB r ?_
    cases hb : lookB id bx with
    | arr e v xs => exact h.freeze (s := ⟨s.fr, bx⟩) hb
    | _ => exact h

theorem Enter.inv (hE : EnvOK X.P X.E) (he : Enter X.E X.pb s s0) (h : Inv X s a w β) : ∃ β', Inv X s0 a w β' := by
  obtain ⟨gs, φ, ρ, h1, h2, h3⟩ := he
  obtain ⟨β', h'⟩ := h.owns hE gs h1
  exact ⟨_, (h'.frzB φ).into h2 h3⟩

end
end Go.Vx
end

section
set_option linter.unusedVariables false
namespace Go.Vx
open Go Go.RowKit

def findR (σ : List (Nat × Nat)) : List (Nat × Box) → Nat → Option Nat
  | [], _ => none
  | p :: r, j => if j = ren σ p.1 then some p.1 else findR σ r j

theorem findR_some {σ : List (Nat × Nat)} : ∀ {l : List (Nat × Box)} {j id : Nat}, findR σ l j = some id → j = ren σ id ∧ ∃ b, (id, b) ∈ l
  | [], _, _, h => by cases h
  | p :: r, j, id, h => by
    unfold findR at h
    split at h
    · rename_i he
      injection h with h
      subst h
      exact ⟨he, p.2, List.mem_cons_self ..⟩
    · obtain ⟨h1, b, h2⟩ := findR_some h
      exact ⟨h1, b, List.mem_cons_of_mem _ h2⟩
theorem findR_key {σ : List (Nat × Nat)} : ∀ {l : List (Nat × Box)} {seen : List Nat}, nodupR σ l seen = true → ∀ {id : Nat}, (∃ b, (id, b) ∈ l) → findR σ l (ren σ id) = some id
  | [], _, _, id, ⟨b, h⟩ => by cases h
  | p :: r, seen, h, id, hb => by
    unfold findR
    split
    · rename_i he
      exact congrArg some (nodupR_inj h p.1 id ⟨p.2, List.mem_cons_self ..⟩ hb he.symm)
    · rename_i he
      obtain ⟨b, hb⟩ := hb
      rcases List.mem_cons.1 hb with hh | hh
      · rw [← hh] at he
        exact (he rfl).elim
      · simp only [nodupR] at h
        cases hm : memN (ren σ p.1) seen <;> rw [hm] at h
        · exact findR_key h ⟨b, hh⟩
        · cases h

section
variable {σ : List (Nat × Nat)} {bc bx : List (Nat × Box)}

theorem reU_look (rest : List (Nat × Box)) : ∀ {l : List (Nat × Box)} {seen : List Nat}, nodupR σ l seen = true → ∀ j, lookB j (reU σ bc bx l ++ rest) = match findR σ l j with
    | some id => reB σ bc bx (verB (lookB j bc)) (verB (lookB id bx)) (lookB id l)
    | none => lookB j rest
  | [], _, _, j => rfl
  | p :: r, seen, h, j => by
    have h' := h
    simp only [nodupR] at h
    cases hm : memN (ren σ p.1) seen <;> rw [hm] at h
    · simp only [cond_false] at h
      rw [reU, List.cons_append, lookB_cons, findR]
      by_cases hj : j = ren σ p.1
      · rw [if_pos hj, if_pos hj]
        simp only [hj]
        rw [lookB_cons, if_pos rfl]
      · rw [if_neg hj, if_neg hj, reU_look rest h j]
        cases hf : findR σ r j with
        | none => rfl
        | some id =>
          obtain ⟨e1, b, e2⟩ := findR_some hf
          have hne : id ≠ p.1 := by
            rintro rfl
            exact hj e1
          simp only []
          rw [lookB_cons, if_neg hne]
    · cases h

theorem reB_live (vc v0 : Nat) (b : Box) : live (reB σ bc bx vc v0 b) = live b := by cases b <;> rfl

theorem renL_get : ∀ (vs : List AV) (j : Nat), (renL σ bc bx vs)[j]? = (vs[j]?).map (renA σ bc bx)
  | [], j => by simp [renL]
  | v :: r, j => by
    cases j with
    | zero => simp [renL]
    | succ j => simpa [renL] using renL_get r j
theorem renL_len : ∀ (vs : List AV), (renL σ bc bx vs).length = vs.length
  | [] => rfl
  | v :: r => by simp [renL, renL_len r]

/-- what the callee's values are to the caller -/
theorem RV.ren {w : World} {M M' : Nat → Prop} {β1 β' : Nat → Value} {lk1 lk' : Nat → Box} {v : Value} {av : AV} (hv : RV w M β1 lk1 v av) (hM : ∀ k, M' k → M k)
    (hl : ∀ id, lk1 id ≠ .dead → lk' (ren σ id) = reB σ bc bx (verB (lookB (ren σ id) bc)) (verB (lookB id bx)) (lk1 id) ∧ β' (ren σ id) = β1 id) : RV w M' β' lk' v (renA σ bc bx av) := by
  have hk : Kept w M w M' := fun k _ hn => ⟨rfl, fun hm => hn (hM k hm)⟩
  induction hv with
  | top v => simp only [renA]; exact .top v
  | c v d h => simp only [renA]; exact .c v d (h.keep hk)
  | ag cs ds hs h => simp only [renA]; exact .ag cs ds hs fun j d hd => (h j d hd).keep hk
  | tp vs avs hs h ih =>
    simp only [renA]
    refine .tp vs _ (by rw [renL_len]; exact hs) fun j av hj => ?_
    rw [renL_get] at hj
    cases ha : avs[j]? with
    | none => rw [ha] at hj; cases hj
    | some x =>
      rw [ha] at hj
      simp only [Option.map_some, Option.some.injEq] at hj
      subst hj
      exact ih j x ha
  | osl id ver v h1 h =>
    simp only [renA]
    cases hd : decide (verB (lookB id bx) ≤ ver) with
    | false => exact .top v
    | true =>
      simp only [decide_eq_true_eq] at hd
      refine .osl _ _ v h1 ?_
      have hne : lk1 id ≠ .dead := fun e => by rw [e] at h; exact h
      obtain ⟨e1, e2⟩ := hl id hne
      rw [e1, e2]
      cases hb : lk1 id with
      | dead => exact (hne hb).elim
      | cells cs => rw [hb] at h; exact h.elim
      | map kt et es => rw [hb] at h; exact h.elim
      | arr e n xs =>
        rw [hb] at h
        exact ⟨by have := h.1; omega, fun he => h.2 (by have := h.1; omega)⟩
      | frz n xs =>
        rw [hb] at h
        exact ⟨by have := h.1; omega, fun he => h.2 (by have := h.1; omega)⟩
  | bp id off g cs hl1 hb =>
    simp only [renA]
    obtain ⟨e1, e2⟩ := hl id (by rw [hl1]; exact fun e => by cases e)
    rw [hl1] at e1
    exact .bp _ off g _ e1 (e2.trans hb)
  | mp id g kt et es hl1 hb =>
    simp only [renA]
    obtain ⟨e1, e2⟩ := hl id (by rw [hl1]; exact fun e => by cases e)
    rw [hl1] at e1
    exact .mp _ g _ _ _ e1 (e2.trans hb)
  | op id ver i sz off v h1 h => simp only [renA]; exact .top v
  | ip ad ds cell hb hn hcell h =>
    simp only [renA]
    exact .ip ad ds cell hb (fun hm => hn (hM _ hm)) hcell fun j d hd => (h j d hd).keep hk
  | fn f caps cs hs h ih =>
    simp only [renA]
    refine .fn f caps _ (by rw [renL_len]; exact hs) fun j av hj => ?_
    rw [renL_get] at hj
    cases ha : cs[j]? with
    | none => rw [ha] at hj; cases hj
    | some x =>
      rw [ha] at hj
      simp only [Option.map_some, Option.some.injEq] at hj
      subst hj
      exact ih j x ha

theorem cellsTop_at : ∀ {l : List AV}, cellsTop l = true → ∀ (j : Nat) av, l[j]? = some av → cellAV av = true
  | [], _, j, av, h => by simp at h
  | v :: r, h, j, av, hj => by
    simp only [cellsTop] at h
    cases hv : cellAV v <;> rw [hv] at h
    · cases h
    · cases j with
      | zero =>
        simp only [List.getElem?_cons_zero, Option.some.injEq] at hj
        subst hj; exact hv
      | succ j => exact cellsTop_at h j av (by simpa using hj)
theorem updTop_at : ∀ {l : Upd}, updTop l = true → ∀ p ∈ l, boxTop p.2 = true
  | [], _, p, h => by cases h
  | q :: r, h, p, hp => by
    simp only [updTop] at h
    cases hv : boxTop q.2 <;> rw [hv] at h
    · cases h
    · rcases List.mem_cons.1 hp with rfl | hp
      · exact hv
      · exact updTop_at h p hp
theorem reU_mem : ∀ {l : List (Nat × Box)} {seen : List Nat}, nodupR σ l seen = true → ∀ {id : Nat}, (∃ b, (id, b) ∈ l) → (ren σ id, reB σ bc bx (verB (lookB (ren σ id) bc)) (verB (lookB id bx)) (lookB id l)) ∈ reU σ bc bx l
  | [], _, _, id, ⟨b, h⟩ => by cases h
  | p :: r, seen, h, id, ⟨b, hb⟩ => by
    have h0 := h
    simp only [nodupR] at h
    cases hm : memN (ren σ p.1) seen <;> rw [hm] at h
    · simp only [cond_false] at h
      rw [reU, lookB_cons]
      by_cases hi : id = p.1
      · rw [if_pos hi, hi]; exact List.mem_cons_self ..
      · rw [if_neg hi]
        refine List.mem_cons_of_mem _ (reU_mem h ?_)
        rcases List.mem_cons.1 hb with hh | hh
        · rw [← hh] at hi; exact (hi rfl).elim
        · exact ⟨b, hh⟩
    · cases h

theorem NewL_at : ∀ {l : List (Nat × Box)}, NewL σ bc bx l → ∀ {id : Nat}, (∃ b, (id, b) ∈ l) → lookB id bx = .dead → lookB (ren σ id) bc = .dead
  | [], _, id, ⟨b, h⟩, _ => by cases h
  | p :: r, h, id, ⟨b, hb⟩, hd => by
    rcases List.mem_cons.1 hb with hh | hh
    · have h1 := h.1
      rw [← hh] at h1
      simp only [hd, New1] at h1
      exact h1
    · exact NewL_at h.2 ⟨b, hh⟩ hd
end

section
variable {X : Ctx} {s : S} {a : Act} {w : World} {β : Nat → Value}

theorem callM_sound {f : Nat} {raw : List AV} {W : AV → Upd → S → Prop} {vals : Array Value} (hI : Inv X s a w β) (h : CallMVC X.P X.E f raw W s)
    (hraw : ∀ bx, Inv X ⟨s.fr, bx⟩ a w β → vals.size = raw.length ∧ ∀ j av, raw[j]? = some av → RV w (MM X (lookB · bx) β) β (lookB · bx) (vals.getD j undef) av) :
    ∃ r' u bc, W r' u ⟨s.fr, bc⟩ ∧ Callable X.P f ∧ Calls X.P f vals w fun e w' => ∃ v β', e = .returned v ∧ Inv X ⟨s.fr, u ++ bc⟩ a w' β' ∧ RV w' (MM X (lookB · (u ++ bc)) β') β' (lookB · (u ++ bc)) v r' := by
  obtain ⟨args0, bx0, r, bx1, φ, σ, ⟨hcall, hok⟩, ⟨hfit, hB, hN0, hN1, hnew, htop⟩, hW⟩ := h
  have h1 : Inv X ⟨s.fr, frzB φ s.bx⟩ a w β := hI.frzB φ
  generalize hbc : frzB φ s.bx = bc at hfit hB hnew htop hW h1
  refine ⟨_, _, bc, hW, hcall, ?_⟩
  obtain ⟨hvs, hvr⟩ := hraw bc h1
  obtain ⟨hlen, hat⟩ := FitL.at hfit
  have hlive := LeB.mm (s := s) hB
  let β0 : Nat → Value := fun id => β (ren σ id)
  let M : Nat → Prop := fun k => MM X (lookB · bc) β k ∧ ¬ extOf bx0 β0 k
  let Y : Ctx := X0 X.P X.E w M β0 bx0
  have hYM : ∀ k, MM Y (lookB · bx0) β0 k → MM X (lookB · bc) β k := fun k hk => by
    rcases hk with hk | ⟨id, hl, hb⟩
    · exact hk.1
    · exact .inr ⟨ren σ id, hlive id hl, hb⟩
  have hinj0 : ∀ i j k, live (lookB i bx0) = true → live (lookB j bx0) = true → blk (β0 i) = some k → blk (β0 j) = some k → i = j := fun i j k hi hj hbi hbj => by
    refine nodupR_inj hN0 i j (lookB_mem fun hd => ?_) (lookB_mem fun hd => ?_) (h1.inj _ _ k (hlive i hi) (hlive j hj) hbi hbj)
    · rw [hd] at hi; cases hi
    · rw [hd] at hj; cases hj
  have hface : Face Y w β0 bx0 := ⟨fun id => LeB.boxes (X := X) (s := ⟨s.fr, bc⟩) (s0 := ⟨[], bx0⟩) (Y := Y) rfl h1.box (fun id0 k hl hb => .inr ⟨id0, hl, hb⟩) hB hYM id, hinj0⟩
  have hc := hok w M β0 vals (fun k hk => ⟨h1.lt hk.1, hk.2⟩) hface (by rw [hvs]; exact hlen) (fun j av hj => by
    obtain ⟨av', ha, hf⟩ := hat j av hj
    exact hf.rv h1.frzV hYM (hvr j av' ha))
  refine hc.mono fun e w' hh => ?_
  obtain ⟨v, β1, rfl, hkeep, hface1, hturn, hrv⟩ := hh
  -- the new names
  let β' : Nat → Value := fun j => match findR σ bx1 j with | some id => β1 id | none => β j
  have hlook := fun j => reU_look (σ := σ) (bc := bc) (bx := bx0) bc hN1 j
  have hkey : ∀ id, lookB id bx1 ≠ .dead → findR σ bx1 (ren σ id) = some id := fun id hd => findR_key hN1 (lookB_mem hd)
  have hnd : ∀ id, lookB id bx0 ≠ .dead → lookB id bx1 ≠ .dead := fun id hd he => by
    have := hturn id
    rw [he] at this
    cases hb : lookB id bx0 with
    | dead => exact hd hb
    | cells cs => rw [hb] at this; obtain ⟨⟨_, h⟩, _⟩ := this; cases h
    | map kt et es => rw [hb] at this; obtain ⟨⟨_, _, _, h⟩, _⟩ := this; cases h
    | arr e n xs =>
      rw [hb] at this
      rcases this with ⟨_, _, _, h, _⟩ | ⟨_, _, h, _⟩ <;> cases h
    | frz n xs => rw [hb] at this; obtain ⟨⟨_, h⟩, _⟩ := this; cases h
  have hlk1 : ∀ id, lookB id bx1 ≠ .dead → lookB (ren σ id) (reU σ bc bx0 bx1 ++ bc) = reB σ bc bx0 (verB (lookB (ren σ id) bc)) (verB (lookB id bx0)) (lookB id bx1) ∧ β' (ren σ id) = β1 id := fun id hd => by
    have hk := hkey id hd
    refine ⟨by rw [hlook, hk], ?_⟩
    show (match findR σ bx1 (ren σ id) with | some id => β1 id | none => β (ren σ id)) = β1 id
    rw [hk]
  have hlk2 : ∀ j, findR σ bx1 j = none → lookB j (reU σ bc bx0 bx1 ++ bc) = lookB j bc ∧ β' j = β j := fun j hn => by
    refine ⟨by rw [hlook, hn], ?_⟩
    show (match findR σ bx1 j with | some id => β1 id | none => β j) = β j
    rw [hn]
  have hextM : ∀ k, extOf bx0 β0 k → MM X (lookB · bc) β k := fun k ⟨id, hl, hb⟩ => .inr ⟨ren σ id, hlive id hl, hb⟩
  have hextO : ∀ k, extOf bx0 β0 k → k < w.heap.size ∧ X.own k := fun k ⟨id, hl, hb⟩ => (h1.box (ren σ id)).lt (hlive id hl) hb
  have hMM1 : ∀ k, MM X (lookB · (reU σ bc bx0 bx1 ++ bc)) β' k → MM Y (lookB · bx1) β1 k := fun k hk => by
    rcases hk with hk | ⟨j, hl, hb⟩
    · exact .inl ⟨.inl hk, fun he => Ctx.own_m0 h1.m0 (hextO k he).2 hk⟩
    · cases hf : findR σ bx1 j with
      | some id =>
        obtain ⟨rfl, hmem⟩ := findR_some hf
        have hl' : live (lookB (ren σ id) (reU σ bc bx0 bx1 ++ bc)) = true := hl
        rw [hlook, hf] at hl'
        simp only [reB_live] at hl'
        have hd : lookB id bx1 ≠ .dead := fun e => by rw [e] at hl'; cases hl'
        rw [(hlk1 id hd).2] at hb
        exact .inr ⟨id, hl', hb⟩
      | none =>
        obtain ⟨e1, e2⟩ := hlk2 j hf
        have hl' : live (lookB j bc) = true := by rw [← e1]; exact hl
        rw [e2] at hb
        refine .inl ⟨.inr ⟨j, hl', hb⟩, ?_⟩
        rintro ⟨id, hli, hbi⟩
        have : ren σ id = j := h1.inj _ _ k (hlive id hli) hl' hbi hb
        have hd1 := hnd id (fun e => by rw [e] at hli; cases hli)
        rw [← this, hkey id hd1] at hf
        cases hf
  have hYM1 : ∀ k, MM Y (lookB · bx1) β1 k → k < w.heap.size → MM X (lookB · bc) β k := fun k hk hlt => by
    rcases hk with hk | ⟨id, hl, hb⟩
    · exact hk.1
    · rcases ((hface1.box id).lt hl hb).2 with ho | ho
      · have : w.heap.size ≤ k := ho
        omega
      · exact hextM k ho
  have hheap : ∀ k, k < w.heap.size → ¬ extOf bx0 β0 k → w'.heap[k]? = w.heap[k]? := fun k hk hn => hkeep.block k hk hn
  have hsize : w.heap.size ≤ w'.heap.size := hkeep.size
  have hkept : Kept w (MM X (lookB · bc) β) w' (MM X (lookB · (reU σ bc bx0 bx1 ++ bc)) β') := fun k hk hn =>
    ⟨hheap k hk fun he => hn (hextM k he), fun hm => hn (hYM1 k (hMM1 k hm) hk)⟩
  have hturned : ∀ j, Turned (lookB j bc) (β j) (lookB j (reU σ bc bx0 bx1 ++ bc)) (β' j) := fun j => by
    cases hf : findR σ bx1 j with
    | none =>
      obtain ⟨e1, e2⟩ := hlk2 j hf
      rw [e1, e2]; exact Turned.refl _ _
    | some id =>
      obtain ⟨rfl, hmem⟩ := findR_some hf
      have ht := hturn id
      have hbeta : β' (ren σ id) = β1 id := by
        show (match findR σ bx1 (ren σ id) with | some id => β1 id | none => β (ren σ id)) = β1 id
        rw [hf]
      have hlk : lookB (ren σ id) (reU σ bc bx0 bx1 ++ bc) = reB σ bc bx0 (verB (lookB (ren σ id) bc)) (verB (lookB id bx0)) (lookB id bx1) := by rw [hlook, hf]
      rw [hlk, hbeta]
      rcases LeB_at (s := ⟨s.fr, bc⟩) (s0 := ⟨[], bx0⟩) hB id with hd | hb
      · have : lookB (ren σ id) bc = .dead := NewL_at hnew hmem hd
        rw [this]; trivial
      · simp only [] at hb
        cases hb0 : lookB id bx0 with
        | dead =>
          have : lookB (ren σ id) bc = .dead := NewL_at hnew hmem hb0
          rw [this]; trivial
        | cells cs =>
          rw [hb0] at hb ht
          cases hbb : lookB (ren σ id) bc <;> rw [hbb] at hb <;> simp only [FitB] at hb <;> try (exact hb.elim)
          obtain ⟨⟨cs', e1⟩, e2⟩ := ht
          rw [e1]
          exact ⟨⟨_, rfl⟩, e2⟩
        | map kt et es =>
          rw [hb0] at hb ht
          cases hbb : lookB (ren σ id) bc <;> rw [hbb] at hb <;> simp only [FitB] at hb <;> try (exact hb.elim)
          obtain ⟨⟨kt', et', es', e1⟩, e2⟩ := ht
          rw [e1]
          exact ⟨⟨_, _, _, rfl⟩, e2⟩
        | arr e n xs =>
          rw [hb0] at hb ht
          cases hbb : lookB (ren σ id) bc <;> rw [hbb] at hb <;> simp only [FitB] at hb <;> try (exact hb.elim)
          obtain ⟨rfl, rfl⟩ := hb
          rcases ht with ⟨e', n', xs', e1, hn, hv⟩ | ⟨n', xs', e1, hn, hv⟩
          · rw [e1]
            exact .inl ⟨_, _, _, rfl, by simp only [verB]; omega, fun he => hv (by simp only [verB] at he; omega)⟩
          · rw [e1]
            exact .inr ⟨_, _, rfl, by simp only [verB]; omega, fun he => hv (by simp only [verB] at he; omega)⟩
        | frz n xs =>
          rw [hb0] at hb ht
          cases hbb : lookB (ren σ id) bc <;> rw [hbb] at hb <;> simp only [FitB] at hb <;> try (exact hb.elim)
          obtain ⟨⟨xs', e1⟩, e2⟩ := ht
          rw [e1]
          refine ⟨⟨xs', ?_⟩, e2⟩
          simp only [reB, verB]
          congr 1; omega
  have hownY : ∀ k, Y.own k → X.own k := fun k hk => by
    rcases hk with hk | hk
    · exact .inl (Nat.le_trans h1.keep.size hk)
    · exact (hextO k hk).2
  refine ⟨v, β', rfl, ⟨h1.df, h1.sz, ⟨hkeep.os.trans h1.keep.os, hkeep.tape.trans h1.keep.tape, hkeep.output.trans h1.keep.output, Nat.le_trans h1.keep.size hsize, fun k hk hx => ?_⟩, h1.m0, fun j => ?_, fun i j k hli hlj hbi hbj => ?_, fun i => (h1.fr i).keep hsize hkept hturned, fun id => (h1.pin id).trans (hturned id)⟩, hrv.ren hMM1 hlk1⟩
  · rw [hheap k (Nat.lt_of_lt_of_le hk h1.keep.size) fun he => ?_]
    · exact h1.keep.block k hk hx
    · rcases (hextO k he).2 with ho | ho
      · omega
      · exact hx ho
  · cases hf : findR σ bx1 j with
    | none =>
      obtain ⟨e1, e2⟩ := hlk2 j hf
      show BoxOK X w' _ _ _ j (lookB j (reU σ bc bx0 bx1 ++ bc))
      rw [e1]
      refine (h1.box j).keep e2 (fun k hl hb => hheap k ((h1.box j).lt hl hb).1 ?_) hsize hkept hturned
      rintro ⟨id, hli, hbi⟩
      have : ren σ id = j := h1.inj _ _ k (hlive id hli) hl hbi hb
      have hd1 := hnd id (fun e => by rw [e] at hli; cases hli)
      rw [← this, hkey id hd1] at hf
      cases hf
    | some id =>
      obtain ⟨rfl, hmem⟩ := findR_some hf
      have hlk : lookB (ren σ id) (reU σ bc bx0 bx1 ++ bc) = reB σ bc bx0 (verB (lookB (ren σ id) bc)) (verB (lookB id bx0)) (lookB id bx1) := by rw [hlook, hf]
      have hbeta : β' (ren σ id) = β1 id := by
        show (match findR σ bx1 (ren σ id) with | some id => β1 id | none => β (ren σ id)) = β1 id
        rw [hf]
      have hbox := hface1.box id
      show BoxOK X w' _ _ _ (ren σ id) (lookB (ren σ id) (reU σ bc bx0 bx1 ++ bc))
      have htp := updTop_at htop _ (reU_mem (bc := bc) (bx := bx0) hN1 hmem)
      rw [hlk]
      have hk2 : Kept w' (MM Y (lookB · bx1) β1) w' (MM X (lookB · (reU σ bc bx0 bx1 ++ bc)) β') := fun k _ hn => ⟨rfl, fun hm => hn (hMM1 k hm)⟩
      cases hb1 : lookB id bx1 with
      | dead => trivial
      | cells cs =>
        rw [hb1] at hbox htp
        obtain ⟨g, el, conc, e1, e2, e3, e4, e5⟩ := hbox
        refine ⟨g, el, conc, hbeta.trans e1, hownY g e2, e3, by rw [renL_len]; exact e4, fun jj av hj => ?_⟩
        refine ⟨cellsTop_at htp jj av hj, ?_⟩
        rw [renL_get] at hj
        cases ha : cs[jj]? with
        | none => rw [ha] at hj; cases hj
        | some x =>
          rw [ha] at hj
          simp only [Option.map_some, Option.some.injEq] at hj
          subst hj
          exact (e5 jj x ha).2.ren hMM1 hlk1
      | arr e n xs =>
        rw [hb1] at hbox
        obtain ⟨te, flat, e1, e2, e3, e4, e5, e6⟩ := hbox
        exact ⟨te, flat, e1, e2, e3, by rw [hbeta]; exact e4, fun k hk => hownY k (e5 k (by rw [hbeta] at hk; exact hk)), fun i x j d hx hd => (e6 i x j d hx hd).keep hk2⟩
      | frz n xs =>
        rw [hb1] at hbox
        show Rp w' _ (β' (ren σ id)) (.sl xs)
        rw [hbeta]
        exact Rp.keep hbox hk2
      | map kt et es =>
        rw [hb1] at hbox
        obtain ⟨g, ents, clock, e1, e2, e3, e4, e5⟩ := hbox
        exact ⟨g, ents, clock, hbeta.trans e1, hownY g e2, e3, e4, e5⟩
  · have hcase : ∀ j, live (lookB j (reU σ bc bx0 bx1 ++ bc)) = true → ∀ k, blk (β' j) = some k → (∃ id, findR σ bx1 j = some id ∧ live (lookB id bx1) = true ∧ blk (β1 id) = some k) ∨ (findR σ bx1 j = none ∧ live (lookB j bc) = true ∧ blk (β j) = some k) := fun j hl k hb => by
      cases hf : findR σ bx1 j with
      | none =>
        obtain ⟨e1, e2⟩ := hlk2 j hf
        rw [e1] at hl
        rw [e2] at hb
        exact .inr ⟨rfl, hl, hb⟩
      | some id =>
        obtain ⟨rfl, hmem⟩ := findR_some hf
        rw [hlook, hf] at hl
        simp only [reB_live] at hl
        have hd : lookB id bx1 ≠ .dead := fun e => by rw [e] at hl; cases hl
        rw [(hlk1 id hd).2] at hb
        exact .inl ⟨id, rfl, hl, hb⟩
    have hmix : ∀ id j, live (lookB id bx1) = true → blk (β1 id) = some k → findR σ bx1 j = none → live (lookB j bc) = true → blk (β j) = some k → False := fun id j hl hb hf hlj hbj => by
      rcases ((hface1.box id).lt hl hb).2 with ho | ⟨id', hli, hbi⟩
      · have : w.heap.size ≤ k := ho
        have := ((h1.box j).lt hlj hbj).1
        omega
      · have : ren σ id' = j := h1.inj _ _ k (hlive id' hli) hlj hbi hbj
        have hd1 := hnd id' (fun e => by rw [e] at hli; cases hli)
        rw [← this, hkey id' hd1] at hf
        cases hf
    rcases hcase i hli k hbi with ⟨i', f1, l1, b1⟩ | ⟨f1, l1, b1⟩ <;> rcases hcase j hlj k hbj with ⟨j', f2, l2, b2⟩ | ⟨f2, l2, b2⟩
    · have : i' = j' := hface1.inj i' j' k l1 l2 b1 b2
      rw [(findR_some f1).1, (findR_some f2).1, this]
    · exact (hmix i' j l1 b1 f2 l2 b2).elim
    · exact (hmix j' i l2 b2 f1 l1 b1).elim
    · exact h1.inj i j k l1 l2 b1 b2

end
end Go.Vx
end

section
set_option linter.unusedVariables false
namespace Go.Vx
open Go Go.RowKit

def MutAt : R → Nat → List AV → Prop
  | .ob _ r, f, raw => MutAt r f raw
  | .br t a b, f, raw => (t = true ∧ MutAt a f raw) ∨ (t = false ∧ MutAt b f raw)
  | .call g _ _ raw', f, raw => g = f ∧ raw' = raw
  | .callM g raw', f, raw => g = f ∧ raw' = raw
  | _, _, _ => False
theorem MutAt_no : ∀ {r : R} {f : Nat} {raw : List AV}, MutAt r f raw → noM r → False
  | .val _ _, _, _, h, _ => h
  | .ob _ r, _, _, h, hn => MutAt_no (r := r) h hn
  | .br _ a b, _, _, h, hn => by
    rcases h with ⟨_, h⟩ | ⟨_, h⟩
    · exact MutAt_no (r := a) h hn.1
    · exact MutAt_no (r := b) h hn.2
  | .call _ _ _ _, _, _, _, hn => hn
  | .callM _ _, _, _, _, hn => hn
  | .bad, _, _, h, _ => h

theorem stepR_or {P : Program} {E : Env} {d : Nat} {b : Box} {W : AV → Upd → S → Prop} : ∀ {r : R} {s : S}, stepR P E true d b W r s → (∃ v u, Gets P E d b r v u ∧ W v u s) ∨ ∃ f raw, MutAt r f raw ∧ CallMVC P E f raw W s
  | .val v u, s, h => .inl ⟨v, u, ⟨rfl, rfl⟩, h⟩
  | .ob p r, s, h => by
    rcases stepR_or (r := r) h.2 with ⟨v, u, hg, hw⟩ | ⟨f, raw, hm, hc⟩
    · exact .inl ⟨v, u, ⟨h.1, hg⟩, hw⟩
    · exact .inr ⟨f, raw, hm, hc⟩
  | .br t x y, s, h => by
    cases t
    · rcases stepR_or (r := y) h with ⟨v, u, hg, hw⟩ | ⟨f, raw, hm, hc⟩
      · exact .inl ⟨v, u, .inr ⟨rfl, hg⟩, hw⟩
      · exact .inr ⟨f, raw, .inr ⟨rfl, hm⟩, hc⟩
    · rcases stepR_or (r := x) h with ⟨v, u, hg, hw⟩ | ⟨f, raw, hm, hc⟩
      · exact .inl ⟨v, u, .inl ⟨rfl, hg⟩, hw⟩
      · exact .inr ⟨f, raw, .inl ⟨rfl, hm⟩, hc⟩
  | .call f args u raw, s, h => by
    rcases h with ⟨r, v', u2, h1, h2, h3⟩ | ⟨_, hc⟩
    · exact .inl ⟨v', _, ⟨r, u2, h1, h2, rfl⟩, h3⟩
    · exact .inr ⟨f, raw, ⟨rfl, rfl⟩, hc⟩
  | .callM f raw, s, h => .inr ⟨f, raw, ⟨rfl, rfl⟩, h.2⟩
  | .bad, _, h => h.elim

section
variable {X : Ctx} {s s0 : S} {a : Act} {w : World} {β : Nat → Value}

theorem MutAt_op {E : Env} {d : Nat} {o : Op} {f : Nat} {raw : List AV} (h : MutAt (opR E s d o) f raw) : ∃ fo args ts cs, o = .call ⟨.value fo, args, ts⟩ ∧ ev s.fr fo = .fn f cs ∧ raw = args.toList.map (ev s.fr) ++ cs := by
  by_cases hc : ∃ fo args ts, o = .call ⟨.value fo, args, ts⟩
  · obtain ⟨fo, args, ts, rfl⟩ := hc
    simp only [opR, callR] at h
    split at h
    · rename_i g hf
      refine ⟨fo, args, ts, [], rfl, ?_, ?_⟩
      · rw [hf]
        cases hn : normL s.bx (args.toList.map (ev s.fr)) <;> rw [hn] at h
        · rw [h.1]
        · rw [h.1]
      · rw [List.append_nil]
        cases hn : normL s.bx (args.toList.map (ev s.fr)) <;> rw [hn] at h
        · exact h.2.symm
        · exact h.2.symm
    · rename_i g c cs hf
      exact ⟨fo, args, ts, c :: cs, rfl, by rw [hf, h.1], h.2.symm⟩
    · exact h.elim
  · exact (MutAt_no h (noM_op fun fo args ts e => hc ⟨fo, args, ts, e⟩)).elim

theorem MutAt_wanted {ops : Array Oper} {o : Oper} {f : Nat} {raw : List AV} (h : Inv X s a w β) (hm : MutAt (opG X.E ops.toList s o) f raw) : Region.wanted o (yielded ops a.tmps) = true ∧ MutAt (opR X.E s (dstN o.dst) o.op) f raw := by
  unfold opG at hm
  cases hgd : o.guard with
  | none =>
    rw [hgd] at hm
    exact ⟨by simp [Region.wanted, hgd], hm⟩
  | some p =>
    obtain ⟨j, want⟩ := p
    rw [hgd] at hm
    simp only [] at hm
    unfold guardR at hm
    split at hm
    · rename_i t ht
      cases hdj : dstAt ops.toList j with
      | none => rw [hdj] at ht; cases ht
      | some d =>
        rw [hdj] at ht
        simp only [lookO] at ht
        have hv := h.fr d
        rw [ht] at hv
        have hval : a.tmps[d]? = some (.bool t) := by
          rw [Array.getD_eq_getD_getElem?] at hv
          cases hx : a.tmps[d]? with
          | none =>
            rw [hx] at hv
            have := hv.to_c
            simp only [Option.getD_none, undef] at this
            cases this
          | some x =>
            rw [hx] at hv
            have := hv.to_c
            cases this
            rfl
        have hy : yielded ops a.tmps j = some t := by
          unfold dstAt at hdj
          rw [Array.getElem?_toList] at hdj
          unfold yielded
          cases hoj : ops[j]? with
          | none => rw [hoj] at hdj; cases hdj
          | some oj =>
            rw [hoj] at hdj
            simp only [] at hdj
            simp only [Option.bind_some, hdj, hval]
        cases want <;> simp only [cond_true, cond_false] at hm
        · rcases hm with ⟨_, hm⟩ | ⟨rfl, hm⟩
          · exact hm.elim
          · exact ⟨by simp [Region.wanted, hgd, hy], hm⟩
        · rcases hm with ⟨rfl, hm⟩ | ⟨_, hm⟩
          · exact ⟨by simp [Region.wanted, hgd, hy], hm⟩
          · exact hm.elim
    · exact hm.elim
    · exact hm.elim

theorem wpOp_mut {ops : Array Oper} {Q : Exit → Act → World → Prop} {K : Act → World → Prop} {W : S → Prop} {i : Nat} {o : Oper} {f : Nat} {raw : List AV} (hi : ops[i]? = some o) (h : Inv X s a w β) (hd : ∀ d, o.dst = some d → d < X.n)
    (hm : MutAt (opG X.E ops.toList s o) f raw) (hc : CallMVC X.P X.E f raw (nextP o.dst W) s) (hK : ∀ s' a' w' β', W s' → Inv X s' a' w' β' → K a' w') : wpOp X.P ops Q i K a w := by
  obtain ⟨hw, hm⟩ := MutAt_wanted h hm
  obtain ⟨fo, args, ts, cs, ho, hfo, hraw⟩ := MutAt_op hm
  unfold wpOp
  simp only [hi, hw, if_true]
  refine .inl ?_
  have hfv := h.ev fo
  rw [hfo] at hfv
  obtain ⟨caps, hcaps⟩ : ∃ caps, a.eval fo = .func (.func f) #[] caps := by
    generalize a.eval fo = vf at hfv
    cases hfv with
    | fn _ caps _ _ _ => exact ⟨caps, rfl⟩
  have hrun : ∀ fn, X.P.funcs[f]? = some fn → (fn.name == "runtime.NumGoroutine") = false → fn.body.isNone = false → (execOp a.eval o).run X.P w = .ok (.enter f (args.map a.eval ++ caps)) w := fun fn h1 h2 h3 => by
    simp only [execOp, ho, resolve, hcaps, Deferred.ofValue, invoke, callFunc, Sem.run_bind, Sem.run_pure, Result.andThen_ok, run_program, h1, h2, h3, Bool.false_eq_true, if_false, Array.empty_append]
  obtain ⟨r', u, bc, hW, ⟨fn, h1, h2, h3⟩, hcalls⟩ := callM_sound (vals := args.map a.eval ++ caps) h hc (fun bx hI => by
    have hfv := hI.ev fo
    simp only [hfo, hcaps] at hfv
    cases hfv with
    | fn _ _ _ hs hcv =>
      subst hraw
      refine ⟨by simp [hs], fun j av hj => ?_⟩
      by_cases hlt : j < args.size
      · rw [List.getElem?_append_left (by simpa using hlt), List.getElem?_map] at hj
        have hx : args.toList[j]? = some args[j] := by simp [hlt]
        rw [hx] at hj
        simp only [Option.map_some, Option.some.injEq] at hj
        subst hj
        have e1 : (args.map a.eval ++ caps).getD j undef = a.eval args[j] := by
          simp [Array.getD_eq_getD_getElem?, Array.getElem?_append_left, hlt]
        rw [e1]
        exact hI.ev args[j]
      · rw [List.getElem?_append_right (by simpa using Nat.le_of_not_lt hlt)] at hj
        have e1 : (args.map a.eval ++ caps).getD j undef = caps.getD (j - args.size) undef := by
          simp only [Array.getD_eq_getD_getElem?]
          rw [Array.getElem?_append_right (by simpa using Nat.le_of_not_lt hlt)]
          simp
        rw [e1]
        exact hcv _ _ (by simpa using hj))
  unfold Oper.wp
  rw [hrun fn h1 h2 h3, Oper.upon_enter]
  refine hcalls.mono fun e w' hh => ?_
  obtain ⟨v, β', rfl, hI', hrv⟩ := hh
  exact hK _ _ _ β' hW (putU_inv (s := ⟨s.fr, bc⟩) hd hI' hrv)

theorem text_sound {ops : Array Oper} {K : S → Prop} {Q : Exit → Act → World → Prop} (hE : EnvOK X.P X.E) (hd : ∀ (i : Nat) o d, ops.toList[i]? = some o → o.dst = some d → d < X.n) (hQ : ∀ s a w β, K s → Inv X s a w β → Q .normal a w) :
    ∀ (l : List Oper) (k : Nat) (s : S) (a : Act) (w : World) (β : Nat → Value), (∀ j, l[j]? = ops.toList[k + j]?) → vcOps X.P X.E true ops.toList K l s → Inv X s a w β → wpOps X.P ops Q (List.range' k l.length) a w
  | [], k, s, a, w, β, _, h, hI => hQ s a w β h hI
  | o :: r, k, s, a, w, β, hl, h, hI => by
    have ho : ops[k]? = some o := by
      have := hl 0
      rw [Nat.add_zero, Array.getElem?_toList (xs := ops)] at this
      rw [← this]; rfl
    have hdo : ∀ d, o.dst = some d → d < X.n := fun d hdd => hd k o d (by rw [Array.getElem?_toList]; exact ho) hdd
    have hrest : ∀ j, r[j]? = ops.toList[k + 1 + j]? := fun j => by
      have := hl (j + 1)
      rw [List.getElem?_cons_succ] at this
      rw [this]
      congr 1; omega
    rw [List.length_cons, List.range'_succ, wpOps_cons]
    rcases stepR_or h with ⟨v, u, hg, hw⟩ | ⟨f, raw, hm, hc⟩
    · exact wpOp_goes ho hI hE hdo hg fun a' w' β' hI' => text_sound hE hd hQ r (k + 1) _ a' w' β' hrest hw hI'
    · exact wpOp_mut ho hI hdo hm hc fun s' a' w' β' hs hI' => text_sound hE hd hQ r (k + 1) _ a' w' β' hrest hs hI'

theorem region_sound {id : Nat} {ops : Array Oper} {dr : Bool} {L : Sus} {K : S → Prop} {Q' : Exit → Act → World → Prop} (hE : EnvOK X.P X.E) (hm : X.P.follows .mixedOrders = true) (hc : codeB X.n L (.region id ops dr) = true)
    (h : cond dr (vcD X.P X.E ops.toList K s (susOf id L)) (vcOps X.P X.E true ops.toList K ops.toList s)) (hI : Inv X s a w β) (hQ : ∀ s a w β, K s → Inv X s a w β → Q' .normal a w) : (Code.region id ops dr).wp X.P Q' a w := by
  simp only [codeB, Bool.and_eq_true, Bool.or_eq_true] at hc
  obtain ⟨hd, ho⟩ := hc
  cases dr with
  | false =>
    refine wp_region ?_
    have := text_sound hE (dsts_of hd) hQ ops.toList 0 s a w β (fun j => by rw [Nat.zero_add]) h hI
    rwa [Array.length_toList, ← List.range_eq_range'] at this
  | true =>
    have ho : orderB ops.toList (susOf id L) = true := by simpa using ho
    simp only [cond_true] at h
    have hpath : ∃ outs s', Path X.P X.E ops.toList ops.toList s outs s' ∧ K s' ∧ ∀ i j x y vx ux vy uy, (i, j) ∈ susOf id L → ops.toList[i]? = some x → ops.toList[j]? = some y → outs[i]? = some (vx, ux) → outs[j]? = some (vy, uy) →
        (∀ id ∈ ux.map (·.1), id ∉ touched (upTo ops outs s j) y uy) ∧ (∀ id ∈ uy.map (·.1), id ∉ touched (upTo ops outs s i) x ux) := by
      cases hs : susOf id L with
      | nil =>
        rw [hs] at h
        obtain ⟨outs, s', hp, hk⟩ := vcOps_path h
        exact ⟨outs, s', hp, hk, fun i j x y vx ux vy uy hm => by cases hm⟩
      | cons p r =>
        rw [hs] at h
        obtain ⟨outs, s', hp, hok, hk⟩ := vcLog_path h
        refine ⟨outs, s', hp, hk, fun i j x y vx ux vy uy hm hx hy hox hoy => ?_⟩
        obtain ⟨g1, g2⟩ := susOK_spec hok i j hm
        have e1 := logAt_new ops.toList outs 0 s [] i x _ hx hox
        have e2 := logAt_new ops.toList outs 0 s [] j y _ hy hoy
        rw [Nat.zero_add] at e1 e2
        rw [e1, e2] at g1 g2
        exact ⟨g1, g2⟩
    obtain ⟨outs, s', hp, hk, hdyn⟩ := hpath
    obtain ⟨hlen, hat⟩ := path_at hp
    obtain ⟨hs', hat⟩ := hat 0
    refine region_any (sus := susOf id L) hm hE ⟨ho, hlen, fun i o v u hi hu => ?_, hdyn, dsts_of hd⟩ hI fun a w β hI' => hQ s' a w β hk (by rw [hs']; exact hI')
    obtain ⟨v', u', e1, e2⟩ := hat i o hi
    rw [hu] at e1
    injection e1 with e1
    injection e1 with e1 e1'
    subst e1; subst e1'
    rw [Nat.zero_add] at e2
    exact e2


/-- whole bodies -/
theorem vc_sound (hE : EnvOK X.P X.E) (hm : X.P.follows .mixedOrders = true) (L : Sus) : ∀ (c : Code) (Q : Exit → S → Prop) (Q' : Exit → Act → World → Prop) {s : S} {a : Act} {w : World} {β : Nat → Value}, codeB X.n L c = true → vc X.P X.E L X.pb c Q s → Inv X s a w β →
    (∀ e s a w β, Q e s → Inv X s a w β → Q' e a w) → c.wp X.P Q' a w
  | .skip, Q, Q', s, a, w, β, _, h, hI, hQ => wp_skip (hQ .normal s a w β h hI)
  | .region id ops dr, Q, Q', s, a, w, β, hc, h, hI, hQ => region_sound hE hm hc h hI fun s a w β => hQ .normal s a w β
  | .seq x y, Q, Q', s, a, w, β, hc, h, hI, hQ => by
    simp only [codeB, Bool.and_eq_true] at hc
    refine wp_seq (vc_sound hE hm L x _ _ hc.1 h hI fun e s a w β hq hI => ?_)
    cases e with
    | normal => exact vc_sound hE hm L y Q Q' hc.2 hq hI hQ
    | exit i => exact hQ _ s a w β hq hI
    | goto l => exact hQ _ s a w β hq hI
    | ret => exact hQ _ s a w β hq hI
    | panic ch => exact hQ _ s a w β hq hI
    | outgrown => exact hQ _ s a w β hq hI
  | .cond c x y, Q, Q', s, a, w, β, hc, h, hI, hQ => by
    simp only [codeB, Bool.and_eq_true] at hc
    simp only [vc] at h
    unfold condA at h
    split at h
    · rename_i t ht
      have hv := hI.ev c
      rw [ht] at hv
      have hev : a.eval c = .bool t := by
        generalize a.eval c = vv at hv
        cases hv.to_c; rfl
      refine wp_cond hev ?_
      cases t with
      | true => exact vc_sound hE hm L x Q Q' hc.1 h hI hQ
      | false => exact vc_sound hE hm L y Q Q' hc.2 h hI hQ
    · exact h.elim
  | .block id c, Q, Q', s, a, w, β, hc, h, hI, hQ => by
    simp only [codeB] at hc
    refine wp_block (vc_sound hE hm L c _ _ hc h hI fun e s a w β hq hI => ?_)
    cases e with
    | normal => exact hQ _ s a w β hq hI
    | exit i =>
      simp only [blockQ] at hq
      simp only [Exit.inBlock]
      by_cases hi : i = id
      · rw [if_pos hi]
        rw [show (i == id) = true from by simpa using hi] at hq
        exact hQ _ s a w β hq hI
      · rw [if_neg hi]
        rw [show (i == id) = false from by simpa using hi] at hq
        exact hQ _ s a w β hq hI
    | goto l => exact hQ _ s a w β hq hI
    | ret => exact hQ _ s a w β hq hI
    | panic ch => exact hQ _ s a w β hq hI
    | outgrown => exact hQ _ s a w β hq hI
  | .loop c, Q, Q', s, a, w, β, hc, h, hI, hQ => by
    simp only [codeB] at hc
    obtain ⟨Y, inv, st, μ, Q2, ⟨y0, he, hy0⟩, hQ2, hround⟩ := h
    have hQ : ∀ e s a w β, Q2 e s → Inv X s a w β → Q' e a w := fun e s a w β hq hI => by
      rcases hQ2 e s hq with hq | ⟨s', he, hq⟩
      · exact hQ e s a w β hq hI
      · obtain ⟨β', hI'⟩ := he.inv hE hI
        exact hQ e s' a w β' hq hI'
    have key : ∀ n y a w β, μ y < n → inv y → Inv X (st y) a w β → Code.rounds X.P c Q' n a w := by
      intro n
      induction n with
      | zero => intro y a w β hn; omega
      | succ n ih =>
        intro y a w β hn hy hI
        rw [rounds_succ]
        refine vc_sound hE hm L c _ _ hc (hround y hy) hI fun e s a w β hq hI => ?_
        cases e with
        | normal =>
          obtain ⟨y', he', hy', hlt⟩ := hq
          obtain ⟨β', hI'⟩ := he'.inv hE hI
          exact ih y' a w β' (by omega) hy' hI'
        | exit i => exact hQ _ s a w β hq hI
        | goto l => exact hQ _ s a w β hq hI
        | ret => exact hQ _ s a w β hq hI
        | panic ch => exact hQ _ s a w β hq hI
        | outgrown => exact hQ _ s a w β hq hI
    obtain ⟨β', hI'⟩ := he.inv hE hI
    exact wp_loop_rounds _ (key (μ y0 + 1) y0 a w β' (by omega) hy0 hI')
  | .exit i, Q, Q', s, a, w, β, _, h, hI, hQ => wp_exit (hQ _ s a w β h hI)
  | .ret, Q, Q', s, a, w, β, _, h, hI, hQ => wp_ret (hQ _ s a w β h hI)
  | .rangeFunc _ _ _ _, _, _, _, _, _, _, _, h, _, _ => h.elim
  | .scope _, _, _, _, _, _, _, _, h, _, _ => h.elim
  | .label _, _, _, _, _, _, _, _, h, _, _ => h.elim
  | .goto _, _, _, _, _, _, _, _, h, _, _ => h.elim
  | .refuse _, _, _, _, _, _, _, _, h, _, _ => h.elim

end

/-! ### contracts -/
inductive LenD : D → Prop
  | sc (v : Value) : LenD (.sc v)
  | sl (xs : List (List D)) (h : xs.length ≤ maxLen) (h' : ∀ x ∈ xs, ∀ d ∈ x, LenD d) : LenD (.sl xs)
def LenA : AV → Prop
  | .c d => LenD d
  | .ag ds => ∀ d ∈ ds, LenD d
  | .ip ds => ∀ d ∈ ds, LenD d
  | _ => True
theorem Rp.len {w : World} {M : Nat → Prop} {v : Value} {d : D} (h : Rp w M v d) : LenD d := by
  induction h with
  | sc v _ => exact .sc v
  | sl A c size xs cell hc hm h0 hsz hA hr ih =>
    refine .sl xs (Nat.le_trans hc hm) fun x hx d hd => ?_
    obtain ⟨i, hi⟩ := List.getElem?_of_mem hx
    obtain ⟨j, hj⟩ := List.getElem?_of_mem hd
    exact ih i x j d hi hj
theorem RV.len {w : World} {M : Nat → Prop} {β : Nat → Value} {lk : Nat → Box} {v : Value} {av : AV} (h : RV w M β lk v av) : LenA av := by
  cases h with
  | c v d h => exact h.len
  | ag cs ds hs h =>
    intro d hd
    obtain ⟨j, hj⟩ := List.getElem?_of_mem hd
    exact (h j d hj).len
  | ip ad ds cell hb hM hcell h =>
    intro d hd
    obtain ⟨j, hj⟩ := List.getElem?_of_mem hd
    exact (h j d hj).len
  | _ => trivial

theorem look_frOf : ∀ (args : List AV) (i j : Nat), look j (frOf i args) = if i ≤ j then (args[j - i]?).getD .top else .top
  | [], i, j => by simp [frOf, look]
  | v :: r, i, j => by
    rw [frOf, look_cons, look_frOf r (i + 1) j]
    by_cases h : j = i
    · subst h; simp
    · rw [if_neg h]
      by_cases h1 : i ≤ j
      · rw [if_pos (by omega), if_pos h1, show j - i = (j - (i + 1)) + 1 by omega, List.getElem?_cons_succ]
      · rw [if_neg (by omega), if_neg h1]

section
variable {X : Ctx} {s : S} {a : Act} {w : World} {β : Nat → Value}

theorem MM_frz {bx : List (Nat × Box)} {u : Upd} (hu : FrzL bx u) {k : Nat} (h : MM X (lookB · (u ++ bx)) β k) : MM X (lookB · bx) β k := by
  rcases h with h | ⟨id, hl, hb⟩
  · exact .inl h
  · exact .inr ⟨id, (live_frz hu hl).1, hb⟩

/-- one result: by value of what is frozen, or fresh -/
theorem Ret1.res (hext : ∀ k, ¬ X.ext k) {v : Value} {av r : AV} {uT : Upd} {M : Nat → Prop} (h : Inv X s a w β) (hv : RV w (MM X (lookB · s.bx) β) β (lookB · s.bx) v av) (hr : Ret1 X.E s.bx av r) (hE : EnvOK X.P X.E)
    (huT : FrzL s.bx uT) (hsub : ∀ d p, r = .c d → toD s.bx av = some p → ∀ q ∈ p.2, q ∈ uT) (hM : ∀ k, M k → MM X (lookB · (uT ++ s.bx)) β k) : ResV X.E w X.w0.heap.size M v r := by
  have hkM : ∀ {v d}, Rp w (MM X (lookB · (uT ++ s.bx)) β) v d → Rp w M v d := fun hh => hh.keep fun k _ hn => ⟨rfl, fun hm => hn (hM k hm)⟩
  have hkS : ∀ {v d}, Rp w (MM X (lookB · s.bx) β) v d → Rp w M v d := fun hh => hkM (frz_mono (u' := []) huT (by simp) hh)
  cases r with
  | c d =>
    simp only [Ret1] at hr
    cases ht : toD s.bx av with
    | none => rw [ht] at hr; exact hr.elim
    | some p =>
      rw [ht] at hr
      have hr : p.1 = d := hr
      subst hr
      obtain ⟨h1, h2⟩ := toD_sound h hv ht
      exact hkM (frz_mono huT (hsub _ p rfl ht) h2)
  | ag ds =>
    simp only [Ret1] at hr
    subst hr
    cases hv with
    | ag cs _ hs hh => exact ⟨cs, rfl, hs, fun j d hd => hkS (hh j d hd)⟩
  | fr e xs =>
    simp only [Ret1] at hr
    unfold RetF at hr
    split at hr
    · rename_i id ver
      cases hv with
      | osl _ _ _ h1 hok =>
        have hbox := h.box id
        cases hb : lookB id s.bx <;> rw [hb] at hr hok hbox <;> simp only [RetB] at hr <;> try (exact hr.elim)
        obtain ⟨rfl, rfl, rfl⟩ := hr
        have hvβ := hok.2 rfl
        subst hvβ
        obtain ⟨te, flat, e1, e2, e3, e4, e5, e6⟩ := hbox
        refine ⟨te, flat, e1, e2, e3, ⟨e4.1, ?_⟩, fun i x j d hx hd => hkS (e6 i x j d hx hd)⟩
        rcases e4.2 with hn | ⟨g, cap, cur, hv, _, rest⟩
        · exact .inl hn
        · refine .inr ⟨g, cap, cur, hv, ?_, rest⟩
          rcases e5 g (by rw [hv]; rfl) with h1 | h1
          · exact h1
          · exact (hext g h1).elim
    · obtain ⟨rfl, hE'⟩ := hr
      cases hT : X.E e with
      | none => rw [hT] at hE'; cases hE'
      | some te =>
        have hvn : v = .slice none 0 0 := by cases hv.to_c; rfl
        subst hvn
        exact ⟨te, [], hT, (hE e te hT).pos, by simp, World.ownsRow_nil w _ _ _, fun i x j d hx => by simp at hx⟩
    · exact hr.elim
  | _ => exact hr.elim

theorem RetL_sound (hext : ∀ k, ¬ X.ext k) {uT : Upd} {M : Nat → Prop} (h : Inv X s a w β) (hE : EnvOK X.P X.E) (huT : FrzL s.bx uT) (hM : ∀ k, M k → MM X (lookB · (uT ++ s.bx)) β k) : ∀ (ts : List Nat) (rs : List AV), RetL X.E s.bx (ts.map (look · s.fr)) rs →
    (∀ (j : Nat) t r, ts[j]? = some t → rs[j]? = some r → ∀ d p, r = .c d → toD s.bx (look t s.fr) = some p → ∀ q ∈ p.2, q ∈ uT) → ts.length = rs.length ∧ ∀ (j : Nat) t r, ts[j]? = some t → rs[j]? = some r → ResV X.E w X.w0.heap.size M (a.tmps.getD t undef) r
  | [], [], _, _ => ⟨rfl, fun j t r hj => by simp at hj⟩
  | [], _ :: _, hr, _ => hr.elim
  | _ :: _, [], hr, _ => hr.elim
  | t :: ts, r :: rs, hr, hs => by
    obtain ⟨h1, h2⟩ := RetL_sound hext h hE huT hM ts rs hr.2 fun j t r hj hrj => hs (j + 1) t r (by simpa using hj) (by simpa using hrj)
    refine ⟨by simp [h1], fun j t' r' hj hrj => ?_⟩
    cases j with
    | zero =>
      simp only [List.getElem?_cons_zero, Option.some.injEq] at hj hrj
      subst hj; subst hrj
      exact Ret1.res hext h (h.fr t) hr.1 hE huT (hs 0 t r rfl rfl) hM
    | succ j => exact h2 j t' r' (by simpa using hj) (by simpa using hrj)

/-- all that is frozen of what is handed back by value -/
def frzU (bx : List (Nat × Box)) : List AV → List AV → Upd
  | v :: vs, .c _ :: rs => (match toD bx v with | some p => p.2 | none => []) ++ frzU bx vs rs
  | _ :: vs, _ :: rs => frzU bx vs rs
  | _, _ => []
theorem frzU_ids {bx : List (Nat × Box)} : ∀ {vs rs : List AV} {q : Nat × Box}, q ∈ frzU bx vs rs → q.1 ∈ frzIds bx vs rs
  | [], _, q, h => by simp [frzU] at h
  | v :: vs, [], q, h => by simp [frzU] at h
  | v :: vs, r :: rs, q, h => by
    cases r with
    | c d =>
      simp only [frzU, frzIds, List.mem_append] at h ⊢
      rcases h with h | h
      · left
        cases ht : toD bx v with
        | none => rw [ht] at h; simp at h
        | some p =>
          rw [ht] at h
          simp only [toDK, keysU_map]
          exact List.mem_map_of_mem (f := (·.1)) h
      · exact .inr (frzU_ids h)
    | _ =>
      simp only [frzU] at h
      have := frzU_ids h
      simp only [frzIds]
      exact this
theorem frzU_sub {bx : List (Nat × Box)} : ∀ {vs rs : List AV} (j : Nat) v d p, vs[j]? = some v → rs[j]? = some (.c d) → toD bx v = some p → ∀ q ∈ p.2, q ∈ frzU bx vs rs
  | [], _, j, v, d, p, h, _, _, q, _ => by simp at h
  | v0 :: vs, [], j, v, d, p, _, h, _, q, _ => by simp at h
  | v0 :: vs, r0 :: rs, 0, v, d, p, h1, h2, h3, q, hq => by
    simp only [List.getElem?_cons_zero, Option.some.injEq] at h1 h2
    subst h1; subst h2
    simp only [frzU, h3, List.mem_append]
    exact .inl hq
  | v0 :: vs, r0 :: rs, j + 1, v, d, p, h1, h2, h3, q, hq => by
    have := frzU_sub (vs := vs) (rs := rs) j v d p (by simpa using h1) (by simpa using h2) h3 q hq
    cases r0 <;> simp only [frzU, List.mem_append] <;> first | exact this | exact .inr this
theorem frzU_frz (h : Inv X s a w β) : ∀ (ts : List Nat) (rs : List AV), FrzL s.bx (frzU s.bx (ts.map (look · s.fr)) rs)
  | [], rs => by simp only [List.map_nil, frzU]; exact frz_nil _
  | t :: ts, [] => by simp only [List.map_cons, frzU]; exact frz_nil _
  | t :: ts, r :: rs => by
    have ih := frzU_frz h ts rs
    cases r with
    | c d =>
      simp only [List.map_cons, frzU]
      refine FrzL.append ?_ ih
      cases ht : toD s.bx (look t s.fr) with
      | none => exact frz_nil _
      | some p => exact (toD_sound h (h.fr t) ht).1
    | _ => simp only [List.map_cons, frzU]; exact ih

theorem frIds_mem : ∀ {ts : List Nat} {rs : List AV} (j : Nat) t id ver e xs, ts[j]? = some t → rs[j]? = some (.fr e xs) → look t s.fr = .osl id ver → id ∈ frIds (ts.map (look · s.fr)) rs
  | [], _, j, t, id, ver, e, xs, h, _, _ => by simp at h
  | _ :: _, [], j, t, id, ver, e, xs, _, h, _ => by simp at h
  | t0 :: ts, r0 :: rs, 0, t, id, ver, e, xs, h1, h2, h3 => by
    simp only [List.getElem?_cons_zero, Option.some.injEq] at h1 h2
    subst h1; subst h2
    simp only [List.map_cons, h3, frIds]
    exact List.mem_cons_self ..
  | t0 :: ts, r0 :: rs, j + 1, t, id, ver, e, xs, h1, h2, h3 => by
    have := frIds_mem (ts := ts) (rs := rs) j t id ver e xs (by simpa using h1) (by simpa using h2) h3
    simp only [List.map_cons]
    unfold frIds
    split
    · rename_i i' v' vs' e' x' rs' he1 he2
      injection he1 with _ he1
      injection he2 with _ he2
      subst he1; subst he2
      exact List.mem_cons_of_mem _ this
    · rename_i vs' v' rs' hne he1 he2
      injection he1 with _ he1
      injection he2 with _ he2
      subst he1; subst he2
      exact this
    · rename_i hne
      exact (hne _ _ _ _ rfl rfl).elim

end

def resV (ts : List Nat) (tmps : Array Value) : Value :=
  match ts with
  | [t] => tmps.getD t undef
  | ts => .tuple (ts.map fun t => tmps.getD t undef).toArray

theorem mapM_tmps {P : Program} {w : World} {tmps : Array Value} {f : ResultVar → Sem Value} (hf : ∀ t, (f (.tmp t)).run P w = .ok (tmps.getD t undef) w) : ∀ ts : List Nat, ((ts.map ResultVar.tmp).mapM f).run P w = .ok (ts.map fun t => tmps.getD t undef) w
  | [] => rfl
  | t :: ts => by
    simp only [List.map_cons, List.mapM_cons, Sem.run_bind, Sem.run_pure, Result.andThen_ok, mapM_tmps hf ts, hf t]

theorem run_results {P : Program} {fn : Func} {ts : List Nat} (h : fn.results.toList = ts.map .tmp) (tmps : Array Value) (w : World) : (results fn tmps).run P w = .ok (resV ts tmps) w := by
  have hr : fn.results = (ts.map ResultVar.tmp).toArray := by rw [← h]
  unfold results
  rw [hr, List.mapM_toArray]
  simp only [Sem.run_bind, Sem.run_map, Sem.run_pure]
  rw [mapM_tmps (tmps := tmps) (fun t => rfl)]
  simp only [Result.andThen_ok, List.size_toArray, List.length_map]
  cases ts with
  | nil => rfl
  | cons t r =>
    cases r with
    | nil => rfl
    | cons t' r => rfl

/-- A CONTRACT, from the conditions on the body -/
theorem ok_of_vc {P : Program} {E : Env} {f : Nat} {fn : Func} {c : Code} {ts : List Nat} {L : Sus} {args : List AV} {r : AV} (hE : EnvOK P E) (hm : P.follows .mixedOrders = true)
    (hf : P.funcs[f]? = some fn) (hb : fn.body = some c) (hn : (fn.name == "runtime.NumGoroutine") = false) (hres : fn.results.toList = ts.map .tmp) (hc : codeB fn.ntmps L c = true) (ha : Nat.ble args.length fn.ntmps = true)
    (h : (∀ av ∈ args, LenA av) → vc P E L [] c (retQ E ts r) (argsS args)) : Ok P E f args r := by
  have ha := Nat.le_of_ble_eq_true ha
  refine ⟨⟨fn, hf, hn, by rw [hb]; rfl⟩, fun w M vals hM hvs hv => ?_⟩
  have hlen : ∀ av ∈ args, LenA av := fun av hav => by
    obtain ⟨j, hj⟩ := List.getElem?_of_mem hav
    exact (hv j av hj).len
  let X : Ctx := ⟨P, E, w, M, fun _ => False, fn.ntmps, [], fun _ => undef⟩
  refine calls_of_wp hf hb ?_
  have hI : Inv X (argsS args) ⟨vals ++ Array.replicate (fn.ntmps - vals.size) undef, []⟩ w (fun _ => undef) := by
    refine ⟨rfl, ?_, ⟨rfl, rfl, rfl, Nat.le_refl _, fun _ _ _ => rfl⟩, fun k hk => ⟨hM k hk, fun h => h⟩, fun id => trivial, fun i j k hl => (by cases hl), fun i => ?_, fun id => trivial⟩
    · show (vals ++ Array.replicate (fn.ntmps - vals.size) undef).size = fn.ntmps
      rw [Array.size_append, Array.size_replicate]; omega
    · show RV w _ _ _ ((vals ++ Array.replicate (fn.ntmps - vals.size) undef).getD i undef) (look i (frOf 0 args))
      rw [look_frOf, if_pos (Nat.zero_le _), Nat.sub_zero]
      cases hi : args[i]? with
      | none => exact .top _
      | some av =>
        have hlt : i < vals.size := by rw [hvs]; exact (List.getElem?_eq_some_iff.1 hi).1
        have e1 : (vals ++ Array.replicate (fn.ntmps - vals.size) undef).getD i undef = vals.getD i undef := by
          simp only [Array.getD_eq_getD_getElem?, Array.getElem?_append_left hlt]
        rw [e1]
        refine (hv i av hi).keep (Nat.le_refl _) (fun k hk hn => ⟨rfl, ?_⟩) fun id => trivial
        rintro (h | ⟨id, hl, _⟩)
        · exact hn h
        · cases hl
  have hfin : ∀ (e : Exit) (s : S) (a : Act) (w' : World) (β : Nat → Value), retQ E ts r e s → Inv X s a w' β → bodyPost P fn (fun e w' => ∃ v, e = .returned v ∧ Below w.heap.size w w' ∧ ResW E w' w.heap.size M v r) e a w' := by
    intro e s a w' β hq hI
    have hbel : Below w.heap.size w w' := ⟨hI.keep.os, hI.keep.tape, hI.keep.output, hI.keep.size, fun k hk => hI.keep.block k hk fun h => h⟩
    have hmain : RetVC E r s.bx (ts.map (look · s.fr)) → ResW E w' w.heap.size M (resV ts a.tmps) r := by
      intro hr
      have hmul : ∀ rs, (RetL E s.bx (ts.map (look · s.fr)) rs ∧ disjN (frIds (ts.map (look · s.fr)) rs) (frzIds s.bx (ts.map (look · s.fr)) rs) = true) →
          ts.length = rs.length ∧ ∀ (j : Nat) t r, ts[j]? = some t → rs[j]? = some r → ResV E w' w.heap.size (fun k => M k ∨ ∃ (j t : Nat) (r : AV), ts[j]? = some t ∧ rs[j]? = some r ∧ isFr r = true ∧ blk (a.tmps.getD t undef) = some k) (a.tmps.getD t undef) r := by
        intro rs hr
        refine RetL_sound (X := X) (fun _ h => h) hI hE (frzU_frz hI ts rs) ?_ ts rs hr.1 fun j t r hj hrj d p hd hp q hq => ?_
        · rintro k (hk | ⟨j, t, r', hj, hrj, hfr, hbk⟩)
          · exact .inl hk
          · cases r' <;> first | (cases hfr; done) | skip
            rename_i e xs
            have hret : RetF E e xs s.bx (look t s.fr) := by
              have hg : ∀ (vs rs : List AV), RetL E s.bx vs rs → ∀ (j : Nat) v r, vs[j]? = some v → rs[j]? = some r → Ret1 E s.bx v r := by
                intro vs
                induction vs with
                | nil => intro rs _ j v r hv; simp at hv
                | cons v0 vs ih =>
                  intro rs hrs j v r hv hr
                  cases rs with
                  | nil => exact hrs.elim
                  | cons r0 rs =>
                    cases j with
                    | zero =>
                      simp only [List.getElem?_cons_zero, Option.some.injEq] at hv hr
                      subst hv; subst hr
                      exact hrs.1
                    | succ j => exact ih rs hrs.2 j v r (by simpa using hv) (by simpa using hr)
              exact hg _ _ hr.1 j _ _ (by rw [List.getElem?_map, hj]; rfl) hrj
            have hv := hI.fr t
            unfold RetF at hret
            split at hret
            · rename_i id ver hlk
              rw [hlk] at hv
              have hmem := frIds_mem (s := s) j t id ver e xs hj hrj hlk
              have hnot := disjN_spec hr.2 id hmem
              generalize a.tmps.getD t undef = vv at hv hbk
              cases hv with
              | osl _ _ _ h1 hok =>
                cases hb : lookB id s.bx <;> rw [hb] at hret hok <;> simp only [RetB] at hret <;> try (exact hret.elim)
                obtain ⟨rfl, rfl, rfl⟩ := hret
                have := hok.2 rfl
                subst this
                refine .inr ⟨id, ?_, hbk⟩
                show live (lookB id (frzU s.bx (ts.map (look · s.fr)) rs ++ s.bx)) = true
                rw [notkey (fun q hq (e : q.1 = id) => hnot (e ▸ frzU_ids hq)), hb]
                rfl
            · rename_i hlk
              rw [hlk] at hv
              generalize a.tmps.getD t undef = vv at hv hbk
              cases hv.to_c
              cases hbk
            · exact hret.elim
        · subst hd
          exact frzU_sub j _ d p (by rw [List.getElem?_map, hj]; rfl) hrj hp q hq
      have hone : ∀ t, ts = [t] → RetVC E r s.bx (ts.map (look · s.fr)) → ResW E w' w.heap.size M (resV ts a.tmps) r := by
        intro t hts hr
        subst hts
        have hr1 : Ret1 E s.bx (look t s.fr) r := hr
        have hd : disjN (frIds [look t s.fr] [r]) (frzIds s.bx [look t s.fr] [r]) = true := by
          cases r <;> cases look t s.fr <;> simp [frIds, frzIds, disjN, memN]
        obtain ⟨_, hat⟩ := hmul [r] ⟨⟨hr1, trivial⟩, hd⟩
        have := hat 0 t r rfl rfl
        have hcv : ResV E w' w.heap.size (fun k => M k ∨ (isFr r = true ∧ blk (a.tmps.getD t undef) = some k)) (a.tmps.getD t undef) r := by
          have hiff : (fun k => M k ∨ ∃ (j t' : Nat) (r' : AV), [t][j]? = some t' ∧ [r][j]? = some r' ∧ isFr r' = true ∧ blk (a.tmps.getD t' undef) = some k) = (fun k => M k ∨ (isFr r = true ∧ blk (a.tmps.getD t undef) = some k)) := by
            funext k
            refine propext ⟨fun h => h.imp id ?_, fun h => h.imp id ?_⟩
            · rintro ⟨j, t', r', h1, h2, h3, h4⟩
              cases j with
              | zero =>
                simp only [List.getElem?_cons_zero, Option.some.injEq] at h1 h2
                subst h1; subst h2
                exact ⟨h3, h4⟩
              | succ j => simp at h1
            · rintro ⟨h3, h4⟩
              exact ⟨0, t, r, rfl, rfl, h3, h4⟩
          rw [hiff] at this
          exact this
        cases r <;> first | exact hcv | (exact hr1.elim)
      cases hts : ts with
      | nil =>
        rw [hts] at hr
        simp only [List.map_nil, RetVC] at hr
        cases r <;> simp only [RetT] at hr <;> try (exact hr.elim)
        rename_i rs
        cases rs with
        | nil => exact ⟨#[], rfl, rfl, fun j r hj => by simp at hj⟩
        | cons _ _ => exact hr.1.elim
      | cons t0 r0 =>
        cases r0 with
        | nil => rw [← hts]; exact hone t0 hts hr
        | cons t1 r1 =>
          have hr' : RetT E s.bx (ts.map (look · s.fr)) r := by
            rw [hts] at hr ⊢
            exact hr
          cases r <;> simp only [RetT] at hr' <;> try (exact hr'.elim)
          rename_i rs
          obtain ⟨h1, h2⟩ := hmul rs hr'
          refine ⟨(ts.map fun t => a.tmps.getD t undef).toArray, by rw [hts]; rfl, by simp [h1], fun j r hj => ?_⟩
          have hjt : j < ts.length := by rw [h1]; exact (List.getElem?_eq_some_iff.1 hj).1
          have e1 : ∀ j (hj : j < ts.length), (ts.map fun t => a.tmps.getD t undef).toArray.getD j undef = a.tmps.getD ts[j] undef := fun j hj => by
            simp [Array.getD_eq_getD_getElem?, hj]
          rw [e1 j hjt]
          have := h2 j _ r (List.getElem?_eq_getElem hjt) hj
          have hiff : (fun k => M k ∨ ∃ (j t' : Nat) (r' : AV), ts[j]? = some t' ∧ rs[j]? = some r' ∧ isFr r' = true ∧ blk (a.tmps.getD t' undef) = some k) = (fun k => M k ∨ frBlk rs (ts.map fun t => a.tmps.getD t undef).toArray k) := by
            funext k
            refine propext ⟨fun h => h.imp id ?_, fun h => h.imp id ?_⟩
            · rintro ⟨j, t', r', h1', h2', h3, h4⟩
              have hjl := (List.getElem?_eq_some_iff.1 h1').1
              refine ⟨j, r', h2', h3, ?_⟩
              rw [e1 j hjl]
              rw [List.getElem?_eq_getElem hjl] at h1'
              injection h1' with h1'
              rw [h1']; exact h4
            · rintro ⟨j, r', h2', h3, h4⟩
              have hjl : j < ts.length := by rw [h1]; exact (List.getElem?_eq_some_iff.1 h2').1
              rw [e1 j hjl] at h4
              exact ⟨j, _, r', List.getElem?_eq_getElem hjl, h2', h3, h4⟩
          rw [hiff] at this
          exact this
    cases e with
    | normal => exact ⟨hI.df, _, run_results hres _ _, _, rfl, hbel, hmain hq⟩
    | ret => exact ⟨hI.df, _, run_results hres _ _, _, rfl, hbel, hmain hq⟩
    | exit i => exact hq.elim
    | goto l => exact hq.elim
    | panic ch => exact hq.elim
    | outgrown => exact hq.elim
  exact vc_sound (X := X) hE hm L c _ _ hc (h hlen) hI fun e s a w β hq hI => hfin e s a w β hq hI

end Go.Vx
end

section
set_option linter.unusedVariables false
set_option linter.unusedSimpArgs false
namespace Go.Vx
open Go Go.RowKit

theorem look_zipR : ∀ (ts : List Nat) (rs : List AV), ts.Nodup → ∀ (j : Nat) t r, ts[j]? = some t → rs[j]? = some r → look t (zipR ts rs) = r
  | [], _, _, j, t, r, h, _ => by simp at h
  | t0 :: ts, [], _, j, t, r, _, h => by simp at h
  | t0 :: ts, r0 :: rs, hn, j, t, r, h1, h2 => by
    rw [List.nodup_cons] at hn
    rw [zipR, look_cons]
    cases j with
    | zero =>
      simp only [List.getElem?_cons_zero, Option.some.injEq] at h1 h2
      subst h1; subst h2
      rw [if_pos rfl]
    | succ j =>
      simp only [List.getElem?_cons_succ] at h1 h2
      have hne : t ≠ t0 := by
        rintro rfl
        exact hn.1 (List.mem_of_getElem? h1)
      rw [if_neg hne]
      exact look_zipR ts rs hn.2 j t r h1 h2

/-- A CONTRACT with boxes, from the conditions on the body -/
theorem okM_of_vc {P : Program} {E : Env} {f : Nat} {fn : Func} {c : Code} {ts : List Nat} {L : Sus} {args : List AV} {bx0 bx1 : List (Nat × Box)} {r : AV} (hE : EnvOK P E) (hm : P.follows .mixedOrders = true)
    (hf : P.funcs[f]? = some fn) (hb : fn.body = some c) (hn : (fn.name == "runtime.NumGoroutine") = false) (hres : fn.results.toList = ts.map .tmp) (hts : ts.Nodup) (hc : codeB fn.ntmps L c = true) (ha : Nat.ble args.length fn.ntmps = true)
    (h : (∀ av ∈ args, LenA av) → (∀ id e v xs, lookB id bx0 = .arr e v xs → xs.length ≤ maxLen) → vc P E L bx0 c (retM E bx0 ts r bx1) ⟨frOf 0 args, bx0⟩) : OkM P E f args bx0 r bx1 := by
  have ha := Nat.le_of_ble_eq_true ha
  refine ⟨⟨fn, hf, hn, by rw [hb]; rfl⟩, fun w M β0 vals hM hface hvs hv => ?_⟩
  have hlen : ∀ av ∈ args, LenA av := fun av hav => by
    obtain ⟨j, hj⟩ := List.getElem?_of_mem hav
    exact (hv j av hj).len
  have hlenB : ∀ id e v xs, lookB id bx0 = .arr e v xs → xs.length ≤ maxLen := fun id e v xs hl => by
    have := hface.box id
    rw [hl] at this
    obtain ⟨te, flat, _, _, _, ho, _⟩ := this
    rcases ho.2 with ⟨_, h0⟩ | ⟨g, cap, cur, _, _, _, h1, h2, _⟩
    · rw [h0]; exact Nat.zero_le _
    · exact Nat.le_trans h1 h2
  let X : Ctx := ⟨P, E, w, M, extOf bx0 β0, fn.ntmps, bx0, β0⟩
  refine calls_of_wp hf hb ?_
  have hI : Inv X ⟨frOf 0 args, bx0⟩ ⟨vals ++ Array.replicate (fn.ntmps - vals.size) undef, []⟩ w β0 := by
    refine ⟨rfl, ?_, ⟨rfl, rfl, rfl, Nat.le_refl _, fun _ _ _ => rfl⟩, hM, hface.box, hface.inj, fun i => ?_, fun id => Turned.refl _ _⟩
    · show (vals ++ Array.replicate (fn.ntmps - vals.size) undef).size = fn.ntmps
      rw [Array.size_append, Array.size_replicate]; omega
    · show RV w _ _ _ ((vals ++ Array.replicate (fn.ntmps - vals.size) undef).getD i undef) (look i (frOf 0 args))
      rw [look_frOf, if_pos (Nat.zero_le _), Nat.sub_zero]
      cases hi : args[i]? with
      | none => exact .top _
      | some av =>
        have hlt : i < vals.size := by rw [hvs]; exact (List.getElem?_eq_some_iff.1 hi).1
        have e1 : (vals ++ Array.replicate (fn.ntmps - vals.size) undef).getD i undef = vals.getD i undef := by
          simp only [Array.getD_eq_getD_getElem?, Array.getElem?_append_left hlt]
        rw [e1]
        exact hv i av hi
  have hret : ∀ (s : S) (a : Act) (w' : World) (β : Nat → Value), RetM E bx0 bx1 s (retFr ts r) → Inv X s a w' β → ∃ v β', (results fn a.tmps).run P w' = .ok v w' ∧ Keep (X0 P E w M β0 bx0) w' ∧ Face (X0 P E w M β0 bx0) w' β' bx1 ∧ (∀ id, Turned (lookB id bx0) (β0 id) (lookB id bx1) (β' id)) ∧
      RV w' (MM (X0 P E w M β0 bx0) (lookB · bx1) β') β' (lookB · bx1) v r := by
    intro s a w' β hr hI
    have hgo : ∀ fr, Enter E bx0 s ⟨fr, bx1⟩ → ∃ β', Inv X ⟨fr, bx1⟩ a w' β' := fun fr he => Enter.inv (X := X) hE he hI
    have hmul : ∀ rs, ts.length = rs.length → Enter E bx0 s ⟨zipR ts rs, bx1⟩ → r = .tp rs → (∀ t, ts ≠ [t]) → ∃ v β', (results fn a.tmps).run P w' = .ok v w' ∧ Keep (X0 P E w M β0 bx0) w' ∧ Face (X0 P E w M β0 bx0) w' β' bx1 ∧ (∀ id, Turned (lookB id bx0) (β0 id) (lookB id bx1) (β' id)) ∧
        RV w' (MM (X0 P E w M β0 bx0) (lookB · bx1) β') β' (lookB · bx1) v r := by
      intro rs hl he hrr hne
      obtain ⟨β', hI'⟩ := hgo _ he
      subst hrr
      refine ⟨_, β', run_results hres _ _, ⟨hI'.keep.os, hI'.keep.tape, hI'.keep.output, hI'.keep.size, hI'.keep.block⟩, ⟨hI'.box, hI'.inj⟩, hI'.pin, ?_⟩
      have hrv : resV ts a.tmps = .tuple (ts.map fun t => a.tmps.getD t undef).toArray := by
        unfold resV
        split
        · exact (hne _ rfl).elim
        · rfl
      rw [hrv]
      refine .tp _ rs (by simp [hl]) fun j av hj => ?_
      have hjl : j < ts.length := by rw [hl]; exact (List.getElem?_eq_some_iff.1 hj).1
      have e1 : (ts.map fun t => a.tmps.getD t undef).toArray.getD j undef = a.tmps.getD ts[j] undef := by
        simp [Array.getD_eq_getD_getElem?, hjl]
      rw [e1]
      have := hI'.fr ts[j]
      simp only [look_zipR ts rs hts j _ av (List.getElem?_eq_getElem hjl) hj] at this
      exact this
    unfold retFr at hr
    split at hr
    · rename_i t
      obtain ⟨β', hI'⟩ := hgo _ hr
      refine ⟨_, β', run_results hres _ _, ⟨hI'.keep.os, hI'.keep.tape, hI'.keep.output, hI'.keep.size, hI'.keep.block⟩, ⟨hI'.box, hI'.inj⟩, hI'.pin, ?_⟩
      have := hI'.fr t
      simp only [look_cons, if_true] at this
      exact this
    · rename_i rs hne
      cases hlb : (ts.length == rs.length) with
      | false => rw [hlb] at hr; exact hr.elim
      | true =>
        rw [hlb] at hr
        exact hmul rs (by simpa using hlb) hr rfl fun t e => hne t e
    · exact hr.elim
  refine vc_sound (X := X) hE hm L c _ _ hc (h hlen hlenB) hI fun e s a w' β hq hI => ?_
  have hdf := hI.df
  cases e with
  | normal =>
    obtain ⟨v, β', h1, h2⟩ := hret s a w' β hq hI
    exact ⟨hdf, v, h1, v, β', rfl, h2⟩
  | ret =>
    obtain ⟨v, β', h1, h2⟩ := hret s a w' β hq hI
    exact ⟨hdf, v, h1, v, β', rfl, h2⟩
  | exit i => exact hq.elim
  | goto l => exact hq.elim
  | panic ch => exact hq.elim
  | outgrown => exact hq.elim

end Go.Vx
end

section
set_option linter.unusedVariables false
set_option linter.unusedSimpArgs false
namespace Go.Vx
open Go Go.RowKit

def valA : AV → AV
  | .fr _ xs => .c (.sl xs)
  | r => r
theorem valA_fr (r : AV) : isFr (valA r) = false := by cases r <;> rfl

theorem ResV.val {E : Env} {w' : World} {B : Nat} {M M' : Nat → Prop} {v : Value} {r : AV} (h : ResV E w' B M v r) (hM : ∀ k, M' k → M k) (hB : ∀ k, M' k → k < B) : ResV E w' B M' v (valA r) := by
  have hw : ∀ {x : Value} {d : D}, Rp w' M x d → Rp w' M' x d := fun hr => hr.keep fun k _ hn => ⟨rfl, fun hm => hn (hM k hm)⟩
  cases r with
  | c d => exact hw h
  | ag ds =>
    obtain ⟨cs, h1, h2, h3⟩ := h
    exact ⟨cs, h1, h2, fun j d hd => hw (h3 j d hd)⟩
  | fr e xs =>
    obtain ⟨te, flat, hE, h0, hl, ho, hr⟩ := h
    show Rp w' M' v (.sl xs)
    have ho0 : w'.ownsRow 0 e te.size v xs.length flat := by
      refine ⟨ho.1, ?_⟩
      rcases ho.2 with hn | ⟨g, cap, cur, hv, _, rest⟩
      · exact .inl hn
      · exact .inr ⟨g, cap, cur, hv, Nat.zero_le _, rest⟩
    rcases ho.2 with ⟨hv, hn⟩ | ⟨g, cap, cur, hv, hb, hg, hnc, hcm, _⟩
    · rw [hv]
      have : xs = [] := List.length_eq_zero_iff.1 hn
      subst this
      exact Rp.nil _ _
    · rw [hv]
      refine .sl _ cap te.size xs (fun j => flat.getD j undef) hnc hcm h0 hl (fun _ => ⟨_, rfl, fun hm => ?_, fun j hj => ?_⟩) fun i x j d hx hd => hw (hr i x j d hx hd)
      · have := hB g hm
        omega
      · rw [hv] at ho0
        exact flat_cells ho0 j hj
  | _ => exact h

theorem Ok.val {P : Program} {E : Env} {f : Nat} {args : List AV} {e : Nat} {xs : List (List D)} (h : Ok P E f args (.fr e xs)) : Ok P E f args (.c (.sl xs)) := by
  refine ⟨h.1, fun w M vals hM hs hv => (h.2 w M vals hM hs hv).mono fun en w' hq => ?_⟩
  obtain ⟨v, he, hb, hr⟩ := hq
  refine ⟨v, he, hb, ?_⟩
  have hr' : ResV E w' w.heap.size (fun k => M k ∨ (isFr (.fr e xs) = true ∧ blk v = some k)) v (.fr e xs) := hr
  have hv := ResV.val (M' := fun k => M k ∨ (isFr (.c (.sl xs)) = true ∧ blk v = some k)) hr' (fun k hk => hk.elim .inl fun h => (by cases h.1)) fun k hk => hk.elim (hM k) fun h => (by cases h.1)
  exact hv

theorem Ok.vals {P : Program} {E : Env} {f : Nat} {args : List AV} {vs : List AV} (h : Ok P E f args (.tp vs)) : Ok P E f args (.tp (vs.map valA)) := by
  refine ⟨h.1, fun w M vals hM hs hv => (h.2 w M vals hM hs hv).mono fun en w' hq => ?_⟩
  obtain ⟨v, he, hb, arr, ha, hsz, hr⟩ := hq
  refine ⟨v, he, hb, arr, ha, by rw [List.length_map]; exact hsz, fun j r hj => ?_⟩
  rw [List.getElem?_map] at hj
  cases hx : vs[j]? with
  | none => rw [hx] at hj; cases hj
  | some r0 =>
    rw [hx] at hj
    injection hj with hj
    subst hj
    have hno : ∀ k, ¬ frBlk (vs.map valA) arr k := fun k hk => by
      obtain ⟨i, r, h1, h2, _⟩ := hk
      rw [List.getElem?_map] at h1
      cases hy : vs[i]? with
      | none => rw [hy] at h1; cases h1
      | some r1 =>
        rw [hy] at h1
        injection h1 with h1
        rw [← h1, valA_fr] at h2
        cases h2
    exact ResV.val (hr j r0 hx) (fun k hk => hk.elim .inl fun h => (hno k h).elim) fun k hk => hk.elim (hM k) fun h => (hno k h).elim

end Go.Vx
end

section
set_option linter.unusedVariables false
set_option maxRecDepth 4000
namespace Go.Vx
open Go

theorem V1 : (∀ (P : Program) (E : Env) (L : Sus) (pb : List (Nat × Box)) (Q : Exit → S → Prop) (s : S), vc P E L pb .skip Q s = Q .normal s) ∧
  (∀ (P : Program) (E : Env) (L : Sus) (pb : List (Nat × Box)) (Q : Exit → S → Prop) (s : S) (id : Nat) (l : List Oper), vc P E L pb (.region id l.toArray false) Q s = vcOps P E true l (Q .normal) l s) ∧
  (∀ (P : Program) (E : Env) (L : Sus) (pb : List (Nat × Box)) (Q : Exit → S → Prop) (s : S) (id : Nat) (l : List Oper), vc P E L pb (.region id l.toArray true) Q s = vcD P E l (Q .normal) s (susOf id L)) ∧
  (∀ (P : Program) (E : Env) (L : Sus) (pb : List (Nat × Box)) (a b : Code) (Q : Exit → S → Prop) (s : S), vc P E L pb (.seq a b) Q s = vc P E L pb a (thenQ (vc P E L pb b Q) Q) s) ∧
  (∀ (P : Program) (E : Env) (L : Sus) (pb : List (Nat × Box)) (c : Operand) (a b : Code) (Q : Exit → S → Prop) (s : S), vc P E L pb (.cond c a b) Q s = condA (vc P E L pb a Q) (vc P E L pb b Q) s (ev s.fr c)) ∧
  (∀ (P : Program) (E : Env) (L : Sus) (pb : List (Nat × Box)) (id : Nat) (c : Code) (Q : Exit → S → Prop) (s : S), vc P E L pb (.block id c) Q s = vc P E L pb c (blockQ id Q) s) ∧
  (∀ (P : Program) (E : Env) (L : Sus) (pb : List (Nat × Box)) (c : Code) (Q : Exit → S → Prop) (s : S), vc P E L pb (.loop c) Q s = LoopVC E pb (vc P E L pb c) Q s) ∧
  (∀ (P : Program) (E : Env) (L : Sus) (pb : List (Nat × Box)) (i : Nat) (Q : Exit → S → Prop) (s : S), vc P E L pb (.exit i) Q s = Q (.exit i) s) ∧
  (∀ (P : Program) (E : Env) (L : Sus) (pb : List (Nat × Box)) (Q : Exit → S → Prop) (s : S), vc P E L pb .ret Q s = Q .ret s) ∧
  (∀ (id : Nat), susOf id [] = []) ∧
  (∀ (i j : Nat) (x : List (Nat × Nat)) (r : Sus), susOf i ((j, x) :: r) = cond (i == j) x (susOf i r)) ∧
  (∀ (P : Program) (E : Env) (l : List Oper) (K : S → Prop) (s : S), vcD P E l K s [] = vcOps P E false l K l s) ∧
  (∀ (P : Program) (E : Env) (l : List Oper) (K : S → Prop) (s : S) (p : Nat × Nat) (r : List (Nat × Nat)), vcD P E l K s (p :: r) = vcLog P E l (endL (p :: r) K) 0 l [] s) ∧
  (∀ (a b : S → Prop) (s : S) (t : Bool), condA a b s (.c (.sc (.bool t))) = guardB s a b t) ∧
  (∀ (a b : S → Prop) (s : S), guardB s a b true = a s) ∧
  (∀ (a b : S → Prop) (s : S), guardB s a b false = b s) ∧
  (∀ (K : S → Prop) (Q : Exit → S → Prop) (s : S), thenQ K Q .normal s = K s) ∧
  (∀ (K : S → Prop) (Q : Exit → S → Prop) (s : S) (i : Nat), thenQ K Q (.exit i) s = Q (.exit i) s) ∧
  (∀ (K : S → Prop) (Q : Exit → S → Prop) (s : S), thenQ K Q .ret s = Q .ret s) ∧
  (∀ (id : Nat) (Q : Exit → S → Prop) (s : S), blockQ id Q .normal s = Q .normal s) ∧
  (∀ (id : Nat) (Q : Exit → S → Prop) (s : S), blockQ id Q .ret s = Q .ret s) ∧
  (∀ (id i : Nat) (Q : Exit → S → Prop) (s : S), blockQ id Q (.exit i) s = cond (i == id) (Q .normal s) (Q (.exit i) s)) ∧
  (∀ (P : Program) (E : Env) (m : Bool) (all : List Oper) (K : S → Prop) (s : S), vcOps P E m all K [] s = K s) ∧
  (∀ (P : Program) (E : Env) (m : Bool) (all : List Oper) (r : List Oper) (K : S → Prop) (s : S) (dst : Option Nat) (op : Op) (ty : Nat) (pos : String) (aft : Array Edge) (g : Option (Nat × Bool)), vcOps P E m all K (⟨dst, op, ty, pos, aft, g⟩ :: r) s = stepR P E m (dstN dst) (lookB (dstN dst) s.bx) (nextP dst (vcOps P E m all K r)) (opG E all s ⟨dst, op, ty, pos, aft, g⟩) s) ∧
  (∀ (P : Program) (E : Env) (all : List Oper) (K : Log → S → Prop) (i : Nat) (log : Log) (s : S), vcLog P E all K i [] log s = K log s) ∧
  (∀ (P : Program) (E : Env) (all : List Oper) (r : List Oper) (K : Log → S → Prop) (i : Nat) (log : Log) (s : S) (dst : Option Nat) (op : Op) (ty : Nat) (pos : String) (aft : Array Edge) (g : Option (Nat × Bool)), vcLog P E all K i (⟨dst, op, ty, pos, aft, g⟩ :: r) log s = stepR P E false (dstN dst) (lookB (dstN dst) s.bx) (nextL dst i (dstN dst :: refsL ((rd op).map (ev s.fr))) log (vcLog P E all K (i + 1) r)) (opG E all s ⟨dst, op, ty, pos, aft, g⟩) s) ∧
  (∀ (E : Env) (all : List Oper) (s : S) (dst : Option Nat) (op : Op) (ty : Nat) (pos : String) (aft : Array Edge), opG E all s ⟨dst, op, ty, pos, aft, none⟩ = opR E s (dstN dst) op) ∧
  (∀ (E : Env) (all : List Oper) (s : S) (dst : Option Nat) (op : Op) (ty : Nat) (pos : String) (aft : Array Edge) (j : Nat) (want : Bool), opG E all s ⟨dst, op, ty, pos, aft, some (j, want)⟩ = guardR want (opR E s (dstN dst) op) (.val (.tp []) []) (lookO (dstAt all j) s.fr)) ∧
  (∀ (run skip : R) (t : Bool), guardR true run skip (.c (.sc (.bool t))) = .br t run skip) ∧
  (∀ (run skip : R) (t : Bool), guardR false run skip (.c (.sc (.bool t))) = .br t skip run) ∧
  (∀ (want : Bool) (run skip : R), guardR want run skip (.tp []) = skip) ∧
  (∀ (o : Oper) (r : List Oper) (j : Nat), dstAt (o :: r) (j + 1) = dstAt r j) ∧
  (∀ (dst : Option Nat) (op : Op) (ty : Nat) (pos : String) (aft : Array Edge) (g : Option (Nat × Bool)) (r : List Oper), dstAt (⟨dst, op, ty, pos, aft, g⟩ :: r) 0 = dst) ∧
  (∀ (d : Nat) (fr : List (Nat × AV)), lookO (some d) fr = look d fr) ∧
  (∀ (d : Nat), dstN (some d) = d) ∧
  (dstN none = 0) ∧
  (∀ (P : Program) (E : Env) (m : Bool) (d : Nat) (b : Box) (W : AV → Upd → S → Prop) (v : AV) (u : Upd) (s : S), stepR P E m d b W (.val v u) s = W v u s) ∧
  (∀ (P : Program) (E : Env) (m : Bool) (d : Nat) (b : Box) (W : AV → Upd → S → Prop) (p : Prop) (r : R) (s : S), stepR P E m d b W (.ob p r) s = (p ∧ stepR P E m d b W r s)) ∧
  (∀ (P : Program) (E : Env) (m : Bool) (d : Nat) (b : Box) (W : AV → Upd → S → Prop) (t : Bool) (x y : R) (s : S), stepR P E m d b W (.br t x y) s = guardB s (stepR P E m d b W x) (stepR P E m d b W y) t) ∧
  (∀ (P : Program) (E : Env) (m : Bool) (d : Nat) (b : Box) (W : AV → Upd → S → Prop) (f : Nat) (args : List AV) (u : Upd) (raw : List AV) (s : S), stepR P E m d b W (.call f args u raw) s = CallX P E m d b f args u raw W s) ∧
  (∀ (P : Program) (E : Env) (d : Nat) (b : Box) (W : AV → Upd → S → Prop) (f : Nat) (raw : List AV) (s : S), stepR P E true d b W (.callM f raw) s = (true = true ∧ CallMVC P E f raw W s)) ∧
  (∀ (P : Program) (E : Env) (m : Bool) (d : Nat) (b : Box) (W : AV → Upd → S → Prop) (s : S), stepR P E m d b W .bad s = False) ∧
  (∀ (d : Option Nat) (W : S → Prop) (v : AV) (u : Upd) (s : S), nextP d W v u s = W (putU s d v u)) ∧
  (∀ (d : Option Nat) (i : Nat) (t : List Nat) (log : Log) (W : Log → S → Prop) (v : AV) (u : Upd) (s : S), nextL d i t log W v u s = W ((i, (t ++ keysU u, keysU u)) :: log) (putU s d v u)) ∧
  (∀ (sus : List (Nat × Nat)) (K : S → Prop) (log : Log) (s : S), endL sus K log s = (susOK log sus = true ∧ K s)) ∧
  (∀ (log : Log), susOK log [] = true) ∧
  (∀ (log : Log) (i j : Nat) (r : List (Nat × Nat)), susOK log ((i, j) :: r) = cond (disjN (logAt i log).2 (logAt j log).1) (cond (disjN (logAt j log).2 (logAt i log).1) (susOK log r) false) false) ∧
  (∀ (i j : Nat) (x : List Nat × List Nat) (r : Log), logAt i ((j, x) :: r) = cond (i == j) x (logAt i r)) ∧
  (∀ (i : Nat), memN i [] = false) ∧
  (∀ (i j : Nat) (r : List Nat), memN i (j :: r) = cond (i == j) true (memN i r)) ∧
  (∀ (l : List Nat), disjN [] l = true) ∧
  (∀ (i : Nat) (r l : List Nat), disjN (i :: r) l = cond (memN i l) false (disjN r l)) ∧
  (keysU [] = []) ∧
  (∀ (i : Nat) (b : Box) (r : Upd), keysU ((i, b) :: r) = i :: keysU r) ∧
  (∀ (fr : List (Nat × AV)) (bx : List (Nat × Box)) (d : Nat) (v : AV) (u : Upd), putU ⟨fr, bx⟩ (some d) v u = ⟨(d, v) :: fr, u ++ bx⟩) ∧
  (∀ (fr : List (Nat × AV)) (bx : List (Nat × Box)) (v : AV) (u : Upd), putU ⟨fr, bx⟩ none v u = ⟨fr, u ++ bx⟩) ∧
  (∀ (i : Nat), look i [] = .top) ∧
  (∀ (i j : Nat) (v : AV) (fr : List (Nat × AV)), look i ((j, v) :: fr) = cond (i == j) v (look i fr)) ∧
  (∀ (i : Nat), lookB i [] = .dead) ∧
  (∀ (i j : Nat) (v : Box) (bx : List (Nat × Box)), lookB i ((j, v) :: bx) = cond (i == j) v (lookB i bx)) := by
  refine ⟨?_, ?_, ?_, ?_, ?_, ?_, ?_, ?_, ?_, ?_, ?_, ?_, ?_, ?_, ?_, ?_, ?_, ?_, ?_, ?_, ?_, ?_, ?_, ?_, ?_, ?_, ?_, ?_, ?_, ?_, ?_, ?_, ?_, ?_, ?_, ?_, ?_, ?_, ?_, ?_, ?_, ?_, ?_, ?_, ?_, ?_, ?_, ?_, ?_, ?_, ?_, ?_, ?_, ?_, ?_, ?_, ?_, ?_, ?_, ?_⟩ <;> intros <;> first | rfl | (rename_i v _ _ _ _ _ _; cases v <;> rfl) | (rename_i v _ _ _; cases v <;> rfl) | (rename_i v _ _; cases v <;> rfl)

theorem V2 : (∀ (fr : List (Nat × AV)) (t : Nat), ev fr (.tmp t) = look t fr) ∧
  (∀ (fr : List (Nat × AV)) (k : IntKind) (n : Int), ev fr (.const (.int k n)) = .c (.sc (.int k n))) ∧
  (∀ (fr : List (Nat × AV)) (b : Bool), ev fr (.const (.bool b)) = .c (.sc (.bool b))) ∧
  (∀ (fr : List (Nat × AV)) (b : ByteArray), ev fr (.const (.string b)) = .c (.sc (.string b))) ∧
  (∀ (fr : List (Nat × AV)) (a : Option Addr) (n c : Nat), ev fr (.const (.slice a n c)) = .c (.sc (.slice a n c))) ∧
  (∀ (fr : List (Nat × AV)) (a : Option Addr), ev fr (.const (.pointer a)) = .c (.sc (.pointer a))) ∧
  (∀ (fr : List (Nat × AV)) (f : Nat), ev fr (.func f) = .fn f []) ∧
  (∀ (E : Env) (fr : List (Nat × AV)) (bx : List (Nat × Box)) (d : Nat) (x : Operand), opR E ⟨fr, bx⟩ d (.move x) = .val (ev fr x) []) ∧
  (∀ (E : Env) (fr : List (Nat × AV)) (bx : List (Nat × Box)) (d : Nat) (x : Operand), opR E ⟨fr, bx⟩ d (.assign x) = .val (ev fr x) []) ∧
  (∀ (E : Env) (fr : List (Nat × AV)) (bx : List (Nat × Box)) (d : Nat) (c a b : Operand), opR E ⟨fr, bx⟩ d (.pick c a b) = pickR (ev fr a) (ev fr b) (ev fr c)) ∧
  (∀ (E : Env) (fr : List (Nat × AV)) (bx : List (Nat × Box)) (d : Nat) (t : Nat), opR E ⟨fr, bx⟩ d (.alloc t) = allocAV d (lookB d bx) (E t)) ∧
  (∀ (E : Env) (fr : List (Nat × AV)) (bx : List (Nat × Box)) (d : Nat) (t : Nat) (x : Operand), opR E ⟨fr, bx⟩ d (.box t x) = boxAV d (lookB d bx) (ev fr x)) ∧
  (∀ (E : Env) (fr : List (Nat × AV)) (bx : List (Nat × Box)) (d : Nat) (t : Nat) (ps : List (Nat × Operand)), opR E ⟨fr, bx⟩ d (.build t ps.toArray) = buildAV E bx fr ps (E t)) ∧
  (∀ (E : Env) (fr : List (Nat × AV)) (bx : List (Nat × Box)) (d : Nat) (t n : Nat) (ps : List (Nat × Operand)), opR E ⟨fr, bx⟩ d (.buildSlice t n ps.toArray) = bslAV E bx fr d n ps (E t)) ∧
  (∀ (E : Env) (fr : List (Nat × AV)) (bx : List (Nat × Box)) (d : Nat) (t : Nat) (p : Operand), opR E ⟨fr, bx⟩ d (.load t p) = loadAV bx (ev fr p) (E t)) ∧
  (∀ (E : Env) (fr : List (Nat × AV)) (bx : List (Nat × Box)) (d : Nat) (t : Nat) (p x : Operand), opR E ⟨fr, bx⟩ d (.store t p x) = storeAV bx (ev fr x) (ev fr p) (E t)) ∧
  (∀ (E : Env) (fr : List (Nat × AV)) (bx : List (Nat × Box)) (d : Nat) (x : Operand), opR E ⟨fr, bx⟩ d (.nilCheck x) = chkR (ev fr x)) ∧
  (∀ (E : Env) (fr : List (Nat × AV)) (bx : List (Nat × Box)) (d : Nat) (t : Nat) (x i : Operand), opR E ⟨fr, bx⟩ d (.indexAddr t x i) = indexAddrAV E bx (ev fr x) (ev fr i) (E t)) ∧
  (∀ (E : Env) (fr : List (Nat × AV)) (bx : List (Nat × Box)) (d : Nat) (t : Nat) (x i : Operand), opR E ⟨fr, bx⟩ d (.index t x i) = indexAV (ev fr x) (ev fr i) (E t)) ∧
  (∀ (E : Env) (fr : List (Nat × AV)) (bx : List (Nat × Box)) (d : Nat) (t f : Nat) (x : Operand), opR E ⟨fr, bx⟩ d (.fieldAddr t x f) = fieldAddrAV bx (ev fr x) f (E t)) ∧
  (∀ (E : Env) (fr : List (Nat × AV)) (bx : List (Nat × Box)) (d : Nat) (t f : Nat) (x : Operand), opR E ⟨fr, bx⟩ d (.field t x f) = fieldAV E (ev fr x) f (E t)) ∧
  (∀ (E : Env) (fr : List (Nat × AV)) (bx : List (Nat × Box)) (d : Nat) (t : Nat) (x : Operand) (lo hi : Option Operand), opR E ⟨fr, bx⟩ d (.slice t x lo hi none) = sliceAV E (lo.map (ev fr)) (hi.map (ev fr)) (froz bx (ev fr x)) (E t)) ∧
  (∀ (E : Env) (fr : List (Nat × AV)) (bx : List (Nat × Box)) (d : Nat) (t t' : Nat) (op : BinOp) (x y : Operand), opR E ⟨fr, bx⟩ d (.binOp op t x y t') = binAV E op (E t) (ev fr x) (ev fr y)) ∧
  (∀ (E : Env) (fr : List (Nat × AV)) (bx : List (Nat × Box)) (d : Nat) (t : Nat) (x : Operand), opR E ⟨fr, bx⟩ d (.unOp .not t x) = notR (ev fr x)) ∧
  (∀ (E : Env) (fr : List (Nat × AV)) (bx : List (Nat × Box)) (d : Nat) (t t' : Nat) (x : Operand), opR E ⟨fr, bx⟩ d (.convert t t' x) = convAV (ev fr x) (E t) (E t')) ∧
  (∀ (E : Env) (fr : List (Nat × AV)) (bx : List (Nat × Box)) (d : Nat) (t : Nat) (l c : Operand), opR E ⟨fr, bx⟩ d (.makeSlice t l c) = mkAV E bx d (ev fr l) (ev fr c) (E t)) ∧
  (∀ (E : Env) (fr : List (Nat × AV)) (bx : List (Nat × Box)) (d : Nat) (i : Nat) (x : Operand), opR E ⟨fr, bx⟩ d (.extract x i) = extR i (ev fr x)) ∧
  (∀ (E : Env) (fr : List (Nat × AV)) (bx : List (Nat × Box)) (d : Nat) (b : Builtin) (l : List Operand) (ts : List Nat), opR E ⟨fr, bx⟩ d (.call ⟨.builtin b, l.toArray, ts.toArray⟩) = bltR E bx d b (l.map (ev fr)) ts) ∧
  (∀ (E : Env) (fr : List (Nat × AV)) (bx : List (Nat × Box)) (d : Nat) (f : Operand) (l : List Operand) (ts : Array Nat), opR E ⟨fr, bx⟩ d (.call ⟨.value f, l.toArray, ts⟩) = callR bx (l.map (ev fr)) (ev fr f)) ∧
  (∀ (a b : AV) (t : Bool), pickR a b (.c (.sc (.bool t))) = .br t (.val a []) (.val b [])) ∧
  (∀ (d : Nat) (b : Box) (ti : TI), allocAV d b (some ti) = newB d (ti.zero.map fun v => .c (.sc v)) b) ∧
  (∀ (d : Nat) (b : Box) (x : AV), boxAV d b x = cond (okCells x) (newB d (cellsOf x) b) .bad) ∧
  (∀ (d : Nat) (cs : List AV), newB d cs .dead = .val (.bp d 0) [(d, .cells cs)]) ∧
  (∀ (d : Nat) (cs cs' : List AV), newB d cs (.cells cs') = .bad) ∧
  (∀ (ds : List D), cellsOf (.ag ds) = ds.map .c) ∧
  (∀ (x : D), cellsOf (.c x) = [.c x]) ∧
  (∀ (id ver : Nat), cellsOf (.osl id ver) = [.osl id ver]) ∧
  (∀ (id ver : Nat), cellsOf (.bp id ver) = [.bp id ver]) ∧
  (∀ (ds : List D), cellsOf (.ip ds) = [.ip ds]) ∧
  (∀ (f : Nat) (cs : List AV), cellsOf (.fn f cs) = [.fn f cs]) ∧
  (∀ (ds : List D), okCells (.ag ds) = true) ∧
  (∀ (x : D), okCells (.c x) = true) ∧
  (∀ (id ver : Nat), okCells (.osl id ver) = true) ∧
  (∀ (id ver : Nat), okCells (.bp id ver) = true) ∧
  (∀ (ds : List D), okCells (.ip ds) = true) ∧
  (∀ (f : Nat) (cs : List AV), okCells (.fn f cs) = true) ∧
  (∀ (E : Env) (bx : List (Nat × Box)) (fr : List (Nat × AV)) (ps : List (Nat × Operand)) (ti : TI), buildAV E bx fr ps (some ti) = cond (kAgg ti.kind) (fillDs E (partsOf E bx fr ti.kind ps) (ti.zero.map zD) []) .bad) ∧
  (∀ (E : Env) (bx : List (Nat × Box)) (fr : List (Nat × AV)) (kd : TK), partsOf E bx fr kd [] = []) ∧
  (∀ (E : Env) (bx : List (Nat × Box)) (fr : List (Nat × AV)) (kd : TK) (i : Nat) (x : Operand) (r : List (Nat × Operand)), partsOf E bx fr kd ((i, x) :: r) = (placeOf E kd i, toDs bx (ev fr x)) :: partsOf E bx fr kd r) ∧
  (∀ (E : Env) (fs : List (Nat × Nat)) (i : Nat), placeOf E (.struct fs) i = fs[i]?) ∧
  (∀ (E : Env) (n e i : Nat), placeOf E (.array n e) i = some (i * szOf (E e), e)) ∧
  (∀ (ti : TI), szOf (some ti) = ti.size) ∧
  (∀ (E : Env) (ds : List D) (u : Upd), fillDs E [] ds u = .val (.ag ds) u) ∧
  (∀ (E : Env) (o t : Nat) (xs : List D) (u' : Upd) (r : List (Option (Nat × Nat) × Option (List D × Upd)) ) (ds : List D) (u : Upd), fillDs E ((some (o, t), some (xs, u')) :: r) ds u = cond (xs.length == szOf (E t) && decide (o + xs.length ≤ ds.length)) (fillDs E r (splice ds xs o) (u' ++ u)) .bad) ∧
  (∀ (ds xs : List D) (off : Nat), splice ds xs off = ds.take off ++ (xs ++ ds.drop (off + xs.length))) ∧
  (∀ (cs xs : List AV) (off : Nat), spliceA cs xs off = cs.take off ++ (xs ++ cs.drop (off + xs.length))) ∧
  (∀ (bx : List (Nat × Box)) (fr : List (Nat × AV)), rowsOf bx fr [] = []) ∧
  (∀ (bx : List (Nat × Box)) (fr : List (Nat × AV)) (i : Nat) (x : Operand) (r : List (Nat × Operand)), rowsOf bx fr ((i, x) :: r) = (i, toDs bx (ev fr x)) :: rowsOf bx fr r) ∧
  (∀ (d e sz n k : Nat) (rows : List (List D)) (u : Upd), fillRows d e sz n [] k rows u = cond (k == n) (.val (.osl d 0) ((d, .arr e 0 rows) :: u)) .bad) ∧
  (∀ (d e sz n i k : Nat) (xs : List D) (u' : Upd) (r : List (Nat × Option (List D × Upd)) ) (rows : List (List D)) (u : Upd), fillRows d e sz n ((i, some (xs, u')) :: r) k rows u = cond (i == k && (xs.length == sz)) (fillRows d e sz n r (k + 1) (rows ++ [xs]) (u' ++ u)) .bad) := by
  refine ⟨?_, ?_, ?_, ?_, ?_, ?_, ?_, ?_, ?_, ?_, ?_, ?_, ?_, ?_, ?_, ?_, ?_, ?_, ?_, ?_, ?_, ?_, ?_, ?_, ?_, ?_, ?_, ?_, ?_, ?_, ?_, ?_, ?_, ?_, ?_, ?_, ?_, ?_, ?_, ?_, ?_, ?_, ?_, ?_, ?_, ?_, ?_, ?_, ?_, ?_, ?_, ?_, ?_, ?_, ?_, ?_, ?_, ?_, ?_, ?_⟩ <;> intros <;> first | rfl | (rename_i v _ _ _ _ _ _; cases v <;> rfl) | (rename_i v _ _ _; cases v <;> rfl) | (rename_i v _ _; cases v <;> rfl)

theorem V3 : (∀ (E : Env) (bx : List (Nat × Box)) (fr : List (Nat × AV)) (d n : Nat) (ps : List (Nat × Operand)) (ti : TI), bslAV E bx fr d n ps (some ti) = bslK E bx fr d n ps ti.kind) ∧
  (∀ (E : Env) (bx : List (Nat × Box)) (fr : List (Nat × AV)) (d n e : Nat) (ps : List (Nat × Operand)), bslK E bx fr d n ps (.slice e) = bslE bx fr d e n ps (lookB d bx) (E e)) ∧
  (∀ (bx : List (Nat × Box)) (fr : List (Nat × AV)) (d n e : Nat) (ps : List (Nat × Operand)) (te : TI), bslE bx fr d e n ps .dead (some te) = cond (decide (n * te.size ≤ 16777216)) (fillRows d e te.size n (rowsOf bx fr ps) 0 [] []) .bad) ∧
  (∀ (E : Env) (bx : List (Nat × Box)) (d : Nat) (l c : AV) (ti : TI), mkAV E bx d l c (some ti) = mkK E bx d l c ti.kind) ∧
  (∀ (E : Env) (bx : List (Nat × Box)) (d e : Nat) (l c : AV), mkK E bx d l c (.slice e) = mkE d e (lookB d bx) l c (E e)) ∧
  (∀ (d e : Nat) (k k' : IntKind) (n m : Int) (te : TI), mkE d e .dead (.c (.sc (.int k n))) (.c (.sc (.int k' m))) (some te) = .ob (n = m ∧ 0 ≤ n ∧ n.toNat * te.bytes ≤ 140737488355328) (.val (.osl d 0) [(d, .arr e 0 (List.replicate n.toNat (te.zero.map zD)))])) ∧
  (zD (.slice none 0 0) = .sl []) ∧
  (∀ (k : IntKind) (n : Int), zD (.int k n) = .sc (.int k n)) ∧
  (∀ (b : Bool), zD (.bool b) = .sc (.bool b)) ∧
  (∀ (b : ByteArray), zD (.string b) = .sc (.string b)) ∧
  (∀ (bx : List (Nat × Box)), toD bx (.c (.sc (.slice none 0 0))) = some (.sl [], [])) ∧
  (∀ (bx : List (Nat × Box)) (k : IntKind) (n : Int), toD bx (.c (.sc (.int k n))) = some (.sc (.int k n), [])) ∧
  (∀ (bx : List (Nat × Box)) (b : Bool), toD bx (.c (.sc (.bool b))) = some (.sc (.bool b), [])) ∧
  (∀ (bx : List (Nat × Box)) (b : ByteArray), toD bx (.c (.sc (.string b))) = some (.sc (.string b), [])) ∧
  (∀ (bx : List (Nat × Box)) (xs : List (List D)), toD bx (.c (.sl xs)) = some (.sl xs, [])) ∧
  (∀ (bx : List (Nat × Box)) (id ver : Nat), toD bx (.osl id ver) = toDB id ver (lookB id bx)) ∧
  (∀ (id ver e v : Nat) (xs : List (List D)), toDB id ver (.arr e v xs) = cond (v == ver) (some (.sl xs, [(id, .frz v xs)])) none) ∧
  (∀ (id ver v : Nat) (xs : List (List D)), toDB id ver (.frz v xs) = cond (v == ver) (some (.sl xs, [])) none) ∧
  (∀ (bx : List (Nat × Box)) (ds : List D), toDs bx (.ag ds) = some (ds, [])) ∧
  (∀ (bx : List (Nat × Box)) (x : D), toDs bx (.c x) = one1 (toD bx (.c x))) ∧
  (∀ (bx : List (Nat × Box)) (id ver : Nat), toDs bx (.osl id ver) = one1 (toD bx (.osl id ver))) ∧
  (∀ (x : D) (u : Upd), one1 (some (x, u)) = some ([x], u)) ∧
  (∀ (bx : List (Nat × Box)) (p : AV) (ti : TI), loadAV bx p (some ti) = loadP ti bx p) ∧
  (∀ (ti : TI) (bx : List (Nat × Box)) (ds : List D), loadP ti bx (.ip ds) = loadD ti ds) ∧
  (∀ (ti : TI) (bx : List (Nat × Box)) (id off : Nat), loadP ti bx (.bp id off) = loadB ti off (lookB id bx)) ∧
  (∀ (ti : TI) (bx : List (Nat × Box)) (id ver i sz off : Nat), loadP ti bx (.op id ver i sz off) = loadO ti ver i off (lookB id bx)) ∧
  (∀ (ti : TI) (off : Nat) (cs : List AV), loadB ti off (.cells cs) = loadC ti (cs.drop off)) ∧
  (∀ (ti : TI) (ver i off e v : Nat) (xs : List (List D)), loadO ti ver i off (.arr e v xs) = cond (v == ver) (.ob (i < xs.length) (loadD ti ((xs.getD i []).drop off))) .bad) ∧
  (∀ (n b : Nat) (z : List Value) (fs : List (Nat × Nat)) (ds : List D), loadD ⟨n, b, z, .struct fs⟩ ds = agR n (some (ds.take n))) ∧
  (∀ (n b m e : Nat) (z : List Value) (ds : List D), loadD ⟨n, b, z, .array m e⟩ ds = agR n (some (ds.take n))) ∧
  (∀ (n b : Nat) (z : List Value) (k : IntKind) (ds : List D), loadD ⟨n, b, z, .int k⟩ ds = headR ds) ∧
  (∀ (n b : Nat) (z : List Value) (ds : List D), loadD ⟨n, b, z, .str⟩ ds = headR ds) ∧
  (∀ (n b : Nat) (z : List Value) (ds : List D), loadD ⟨n, b, z, .bool⟩ ds = headR ds) ∧
  (∀ (n b : Nat) (z : List Value) (ds : List D), loadD ⟨n, b, z, .other⟩ ds = headR ds) ∧
  (∀ (n b e : Nat) (z : List Value) (ds : List D), loadD ⟨n, b, z, .slice e⟩ ds = headR ds) ∧
  (∀ (n b : Nat) (z : List Value) (fs : List (Nat × Nat)) (ds : List AV), loadC ⟨n, b, z, .struct fs⟩ ds = agR n (allD (ds.take n))) ∧
  (∀ (n b m e : Nat) (z : List Value) (ds : List AV), loadC ⟨n, b, z, .array m e⟩ ds = agR n (allD (ds.take n))) ∧
  (∀ (n b : Nat) (z : List Value) (k : IntKind) (ds : List AV), loadC ⟨n, b, z, .int k⟩ ds = headA ds) ∧
  (∀ (n b : Nat) (z : List Value) (ds : List AV), loadC ⟨n, b, z, .str⟩ ds = headA ds) ∧
  (∀ (n b : Nat) (z : List Value) (ds : List AV), loadC ⟨n, b, z, .bool⟩ ds = headA ds) ∧
  (∀ (n b : Nat) (z : List Value) (ds : List AV), loadC ⟨n, b, z, .other⟩ ds = headA ds) ∧
  (∀ (n b e : Nat) (z : List Value) (ds : List AV), loadC ⟨n, b, z, .slice e⟩ ds = headA ds) ∧
  (allD [] = some []) ∧
  (∀ (x : D) (r : List AV), allD (.c x :: r) = (allD r).map (x :: ·)) ∧
  (∀ (n : Nat) (ds : List D), agR n (some ds) = cond (ds.length == n) (.val (.ag ds) []) .bad) ∧
  (∀ (x : D) (r : List D), headR (x :: r) = .val (.c x) []) ∧
  (∀ (x : AV) (r : List AV), headA (x :: r) = .val x []) ∧
  (∀ (bx : List (Nat × Box)) (x p : AV) (ti : TI), storeAV bx x p (some ti) = storeT bx x ti.size p) ∧
  (∀ (bx : List (Nat × Box)) (x : AV) (sz id off : Nat), storeT bx x sz (.bp id off) = cond (okCells x) (storeB id off sz (cellsOf x) (lookB id bx)) .bad) ∧
  (∀ (bx : List (Nat × Box)) (x : AV) (sz id ver i es off : Nat), storeT bx x sz (.op id ver i es off) = storeO id ver i off sz (lookB id bx) (toDs bx x)) ∧
  (∀ (id off sz : Nat) (xs cs : List AV), storeB id off sz xs (.cells cs) = cond (xs.length == sz && decide (off + xs.length ≤ cs.length)) (.val .top [(id, .cells (spliceA cs xs off))]) .bad) ∧
  (∀ (id ver i off sz e v : Nat) (xs : List (List D)) (ds : List D) (u : Upd), storeO id ver i off sz (.arr e v xs) (some (ds, u)) = cond (v == ver && (ds.length == sz && notIn id u)) (.ob (i < xs.length ∧ off + ds.length ≤ (xs.getD i []).length) (.val .top ((id, .arr e v (xs.set i (splice (xs.getD i []) ds off))) :: u))) .bad) ∧
  (∀ (id : Nat), notIn id [] = true) ∧
  (∀ (id i : Nat) (b : Box) (r : Upd), notIn id ((i, b) :: r) = cond (id == i) false (notIn id r)) ∧
  (∀ (E : Env) (bx : List (Nat × Box)) (x i : AV) (ti : TI), indexAddrAV E bx x i (some ti) = indexK E bx x i ti.kind) ∧
  (∀ (E : Env) (bx : List (Nat × Box)) (x i : AV) (e : Nat), indexK E bx x i (.slice e) = indexE bx x i (E e)) ∧
  (∀ (E : Env) (bx : List (Nat × Box)) (x i : AV) (n e : Nat), indexK E bx x i (.array n e) = indexAE bx n x i (E e)) ∧
  (∀ (bx : List (Nat × Box)) (x i : AV) (ti : TI), indexE bx x i (some ti) = indexI bx ti.size x i) ∧
  (∀ (bx : List (Nat × Box)) (n : Nat) (x i : AV) (ti : TI), indexAE bx n x i (some ti) = indexAI bx ti.size n x i) ∧
  (∀ (bx : List (Nat × Box)) (sz : Nat) (x : AV) (k : IntKind) (n : Int), indexI bx sz x (.c (.sc (.int k n))) = indexX bx sz n x) := by
  refine ⟨?_, ?_, ?_, ?_, ?_, ?_, ?_, ?_, ?_, ?_, ?_, ?_, ?_, ?_, ?_, ?_, ?_, ?_, ?_, ?_, ?_, ?_, ?_, ?_, ?_, ?_, ?_, ?_, ?_, ?_, ?_, ?_, ?_, ?_, ?_, ?_, ?_, ?_, ?_, ?_, ?_, ?_, ?_, ?_, ?_, ?_, ?_, ?_, ?_, ?_, ?_, ?_, ?_, ?_, ?_, ?_, ?_, ?_, ?_, ?_⟩ <;> intros <;> first | rfl | (rename_i v _ _ _ _ _ _; cases v <;> rfl) | (rename_i v _ _ _; cases v <;> rfl) | (rename_i v _ _; cases v <;> rfl)

theorem V4 : (∀ (bx : List (Nat × Box)) (sz len : Nat) (x : AV) (k : IntKind) (n : Int), indexAI bx sz len x (.c (.sc (.int k n))) = indexAP bx sz len n x) ∧
  (∀ (bx : List (Nat × Box)) (sz : Nat) (n : Int) (xs : List (List D)), indexX bx sz n (.c (.sl xs)) = .ob (0 ≤ n ∧ n.toNat < xs.length ∧ (xs.getD n.toNat []).length = sz) (.val (.ip (xs.getD n.toNat [])) [])) ∧
  (∀ (bx : List (Nat × Box)) (sz : Nat) (n : Int) (id ver : Nat), indexX bx sz n (.osl id ver) = .ob (0 ≤ n) (indexB id ver n.toNat sz (lookB id bx))) ∧
  (∀ (id ver n sz e v : Nat) (xs : List (List D)), indexB id ver n sz (.arr e v xs) = cond (v == ver) (.ob (n < xs.length ∧ (xs.getD n []).length = sz) (.val (.op id ver n sz 0) [])) .bad) ∧
  (∀ (id ver n sz v : Nat) (xs : List (List D)), indexB id ver n sz (.frz v xs) = cond (v == ver) (.ob (n < xs.length ∧ (xs.getD n []).length = sz) (.val (.ip (xs.getD n [])) [])) .bad) ∧
  (∀ (bx : List (Nat × Box)) (sz len : Nat) (n : Int) (id off : Nat), indexAP bx sz len n (.bp id off) = .ob (0 ≤ n ∧ n.toNat < len) (.val (.bp id (off + n.toNat * sz)) [])) ∧
  (∀ (bx : List (Nat × Box)) (sz len : Nat) (n : Int) (ds : List D), indexAP bx sz len n (.ip ds) = .ob (0 ≤ n ∧ n.toNat < len) (.val (.ip (ds.drop (n.toNat * sz))) [])) ∧
  (∀ (bx : List (Nat × Box)) (sz len id ver i es off : Nat) (n : Int), indexAP bx sz len n (.op id ver i es off) = curR ver (.ob (0 ≤ n ∧ n.toNat < len) (.val (.op id ver i es (off + n.toNat * sz)) [])) (lookB id bx)) ∧
  (∀ (ver e v : Nat) (r : R) (xs : List (List D)), curR ver r (.arr e v xs) = cond (v == ver) r .bad) ∧
  (∀ (bx : List (Nat × Box)) (x : AV) (f : Nat) (ti : TI), fieldAddrAV bx x f (some ti) = fieldK bx x f ti.kind) ∧
  (∀ (bx : List (Nat × Box)) (x : AV) (f : Nat) (fs : List (Nat × Nat)), fieldK bx x f (.struct fs) = fieldF bx x fs[f]?) ∧
  (∀ (bx : List (Nat × Box)) (x : AV) (o t : Nat), fieldF bx x (some (o, t)) = fieldP bx o x) ∧
  (∀ (bx : List (Nat × Box)) (off : Nat) (ds : List D), fieldP bx off (.ip ds) = .val (.ip (ds.drop off)) []) ∧
  (∀ (bx : List (Nat × Box)) (off id o : Nat), fieldP bx off (.bp id o) = .val (.bp id (o + off)) []) ∧
  (∀ (bx : List (Nat × Box)) (off id v i sz o : Nat), fieldP bx off (.op id v i sz o) = curR v (.val (.op id v i sz (o + off)) []) (lookB id bx)) ∧
  (∀ (E : Env) (x : AV) (f : Nat) (ti : TI), fieldAV E x f (some ti) = fieldVK E x f ti.kind) ∧
  (∀ (E : Env) (x : AV) (f : Nat) (fs : List (Nat × Nat)), fieldVK E x f (.struct fs) = fieldVF E x fs[f]?) ∧
  (∀ (E : Env) (x : AV) (o t : Nat), fieldVF E x (some (o, t)) = fieldVA o (E t) x) ∧
  (∀ (off : Nat) (ti : TI) (ds : List D), fieldVA off (some ti) (.ag ds) = loadD ti (ds.drop off)) ∧
  (∀ (id off : Nat), chkR (.bp id off) = .val (.bp id off) []) ∧
  (∀ (ds : List D), chkR (.ip ds) = .val (.ip ds) []) ∧
  (∀ (f : Nat) (cs : List AV), chkR (.fn f cs) = .val (.fn f cs) []) ∧
  (∀ (x i : AV) (ti : TI), indexAV x i (some ti) = indexVK x i ti.kind) ∧
  (∀ (b : ByteArray) (i : AV), indexVK (.c (.sc (.string b))) i .str = indexS b i) ∧
  (∀ (b : ByteArray) (k : IntKind) (n : Int), indexS b (.c (.sc (.int k n))) = .ob (0 ≤ n ∧ n.toNat < b.size) (iv (.int .u8 (byteAt b n.toNat)))) ∧
  (∀ (E : Env) (lo hi : Option AV) (x : AV) (ti : TI), sliceAV E lo hi x (some ti) = sliceK E lo hi x ti.kind) ∧
  (∀ (E : Env) (lo hi : Option AV) (x : AV) (e : Nat), sliceK E lo hi x (.slice e) = sliceE lo hi x (E e)) ∧
  (∀ (E : Env) (lo hi : Option AV) (x : AV), sliceK E lo hi x .str = sliceXs lo hi x) ∧
  (∀ (lo hi : Option AV) (x : AV) (ti : TI), sliceE lo hi x (some ti) = sliceXl lo hi ti.size x) ∧
  (∀ (lo hi : Option AV) (sz : Nat) (xs : List (List D)), sliceXl lo hi sz (.c (.sl xs)) = cutL sz xs (bound 0 lo) (bound xs.length hi)) ∧
  (∀ (bx : List (Nat × Box)) (d : D), froz bx (.c d) = .c d) ∧
  (∀ (bx : List (Nat × Box)) (id ver : Nat), froz bx (.osl id ver) = frozB id ver (lookB id bx)) ∧
  (∀ (id ver v : Nat) (xs : List (List D)), frozB id ver (.frz v xs) = cond (v == ver) (.c (.sl xs)) (.osl id ver)) ∧
  (∀ (lo hi : Option AV) (b : ByteArray), sliceXs lo hi (.c (.sc (.string b))) = cutS b (bound 0 lo) (bound b.size hi)) ∧
  (∀ (n : Nat), bound n none = some (n : Int)) ∧
  (∀ (m : Nat) (k : IntKind) (n : Int), bound m (some (.c (.sc (.int k n)))) = some n) ∧
  (∀ (sz : Nat) (xs : List (List D)) (l h : Int), cutL sz xs (some l) (some h) = .ob ((0 ≤ l ∧ l ≤ h ∧ h ≤ xs.length) ∧ AllLen sz xs) (.val (.c (.sl ((xs.take h.toNat).drop l.toNat))) [])) ∧
  (∀ (b : ByteArray) (l h : Int), cutS b (some l) (some h) = .ob (0 ≤ l ∧ l ≤ h ∧ h ≤ b.size) (iv (.string (b.extract l.toNat h.toNat)))) ∧
  (∀ (E : Env) (op : BinOp) (ti : Option TI) (k k' : IntKind) (a b : Int), binAV E op ti (.c (.sc (.int k a))) (.c (.sc (.int k' b))) = binI op k k' a b) ∧
  (∀ (E : Env) (op : BinOp) (ti : Option TI) (a b : ByteArray), binAV E op ti (.c (.sc (.string a))) (.c (.sc (.string b))) = strBin op a b) ∧
  (∀ (E : Env) (op : BinOp) (ti : Option TI) (a b : Bool), binAV E op ti (.c (.sc (.bool a))) (.c (.sc (.bool b))) = boolT op a b ti) ∧
  (∀ (E : Env) (op : BinOp) (ti : Option TI) (xs ys : List D), binAV E op ti (.ag xs) (.ag ys) = aggT E op xs ys ti) ∧
  (∀ (op : BinOp) (a b : Bool) (ti : TI), boolT op a b (some ti) = boolK op a b ti.kind) ∧
  (∀ (op : BinOp) (a b : Bool), boolK op a b .bool = boolBin op a b) ∧
  (∀ (a b : Bool), boolBin .eql a b = iv (.bool (a == b))) ∧
  (∀ (a b : Bool), boolBin .neq a b = iv (.bool (!(a == b)))) ∧
  (∀ (k k' : IntKind) (a b : Int), binI .shl k k' a b = shiftR .shl k a b) ∧
  (∀ (k k' : IntKind) (a b : Int), binI .shr k k' a b = shiftR .shr k a b) ∧
  (∀ (k : IntKind) (a b : Int), shiftR .shl k a b = .ob (0 ≤ b) (iv (.int k (k.wrap (a * 2 ^ (min b.toNat k.bits)))))) ∧
  (∀ (k : IntKind) (a b : Int), shiftR .shr k a b = .ob (0 ≤ b) (iv (.int k (a.fdiv (2 ^ (min b.toNat k.bits)))))) ∧
  (∀ (v : Value), iv v = .val (.c (.sc v)) []) ∧
  (∀ (a b : ByteArray), strBin .add a b = .ob (a.size + b.size ≤ 4611686018427387904) (iv (.string (a ++ b)))) ∧
  (∀ (a b : ByteArray), strBin .eql a b = iv (.bool (a.toList == b.toList))) ∧
  (∀ (a b : ByteArray), strBin .neq a b = iv (.bool (!(a.toList == b.toList)))) ∧
  (∀ (E : Env) (op : BinOp) (xs ys : List D) (ti : TI), aggT E op xs ys (some ti) = cond (kAgg ti.kind && (xs.length == ti.size && (ys.length == ti.size))) (aggBin E op xs ys (some ti)) .bad) ∧
  (∀ (E : Env) (xs ys : List D) (ti : Option TI), aggBin E .eql xs ys ti = eqR (eqT E 4 ti xs ys)) ∧
  (∀ (E : Env) (xs ys : List D) (ti : Option TI), aggBin E .neq xs ys ti = neR (eqT E 4 ti xs ys)) ∧
  (∀ (t : Bool), eqR (some t) = iv (.bool t)) ∧
  (∀ (t : Bool), neR (some t) = iv (.bool (!t))) ∧
  (∀ (fs : List (Nat × Nat)), kAgg (.struct fs) = true) ∧
  (∀ (n e : Nat), kAgg (.array n e) = true) ∧
  (∀ (E : Env) (n : Nat) (ti : TI) (xs ys : List D), eqT E (n + 1) (some ti) xs ys = eqK E (eqT E n) xs ys ti.kind) ∧
  (∀ (E : Env) (rec : Option TI → List D → List D → Option Bool) (xs ys : List D) (k : IntKind), eqK E rec xs ys (.int k) = eqI xs ys) := by
  refine ⟨?_, ?_, ?_, ?_, ?_, ?_, ?_, ?_, ?_, ?_, ?_, ?_, ?_, ?_, ?_, ?_, ?_, ?_, ?_, ?_, ?_, ?_, ?_, ?_, ?_, ?_, ?_, ?_, ?_, ?_, ?_, ?_, ?_, ?_, ?_, ?_, ?_, ?_, ?_, ?_, ?_, ?_, ?_, ?_, ?_, ?_, ?_, ?_, ?_, ?_, ?_, ?_, ?_, ?_, ?_, ?_, ?_, ?_, ?_, ?_, ?_, ?_, ?_⟩ <;> intros <;> first | rfl | (rename_i v _ _ _ _ _ _; cases v <;> rfl) | (rename_i v _ _ _; cases v <;> rfl) | (rename_i v _ _; cases v <;> rfl)

theorem V5 : (∀ (E : Env) (rec : Option TI → List D → List D → Option Bool) (xs ys : List D), eqK E rec xs ys .str = eqSt xs ys) ∧
  (∀ (E : Env) (rec : Option TI → List D → List D → Option Bool) (xs ys : List D), eqK E rec xs ys .bool = eqB xs ys) ∧
  (∀ (E : Env) (rec : Option TI → List D → List D → Option Bool) (xs ys : List D) (fs : List (Nat × Nat)), eqK E rec xs ys (.struct fs) = eqFs E rec xs ys fs) ∧
  (∀ (E : Env) (rec : Option TI → List D → List D → Option Bool) (xs ys : List D) (m e : Nat), eqK E rec xs ys (.array m e) = eqAs (rec (E e)) (szOf (E e)) m xs ys) ∧
  (∀ (E : Env) (rec : Option TI → List D → List D → Option Bool) (xs ys : List D), eqFs E rec xs ys [] = some true) ∧
  (∀ (E : Env) (rec : Option TI → List D → List D → Option Bool) (xs ys : List D) (o t : Nat) (r : List (Nat × Nat)), eqFs E rec xs ys ((o, t) :: r) = and2 (rec (E t) ((xs.drop o).take (szOf (E t))) ((ys.drop o).take (szOf (E t)))) (eqFs E rec xs ys r)) ∧
  (∀ (rec : List D → List D → Option Bool) (sz : Nat) (xs ys : List D), eqAs rec sz 0 xs ys = some true) ∧
  (∀ (rec : List D → List D → Option Bool) (sz k : Nat) (xs ys : List D), eqAs rec sz (k + 1) xs ys = and2 (rec (xs.take sz) (ys.take sz)) (eqAs rec sz k (xs.drop sz) (ys.drop sz))) ∧
  (∀ (a b : Bool), and2 (some a) (some b) = some (a && b)) ∧
  (∀ (a b : ByteArray), eqSt [.sc (.string a)] [.sc (.string b)] = some (a.toList == b.toList)) ∧
  (∀ (a b : Bool), eqB [.sc (.bool a)] [.sc (.bool b)] = some (a == b)) ∧
  (∀ (x : AV) (ti si : TI), convAV x (some si) (some ti) = convK x ti.kind) ∧
  (∀ (k k' : IntKind) (n : Int), convK (.c (.sc (.int k' n))) (.int k) = iv (.int k (k.wrap n))) ∧
  (∀ (b : ByteArray), convK (.c (.sc (.string b))) .str = iv (.string b)) ∧
  (∀ (t : Bool), notR (.c (.sc (.bool t))) = iv (.bool (!t))) ∧
  (∀ (i : Nat) (vs : List AV), extR i (.tp vs) = headA (vs.drop i)) ∧
  (∀ (E : Env) (bx : List (Nat × Box)) (d : Nat) (x : AV) (t : Nat), bltR E bx d .len [x] [t] = lenT bx x (E t)) ∧
  (∀ (E : Env) (bx : List (Nat × Box)) (d : Nat) (x y : AV) (t t' : Nat), bltR E bx d .append [x, y] [t, t'] = cond (t == t') (appAV E bx d x y (E t)) .bad) ∧
  (∀ (E : Env) (bx : List (Nat × Box)) (d : Nat) (x y : AV) (ts : List Nat), bltR E bx d .min [x, y] ts = minR x y) ∧
  (∀ (E : Env) (bx : List (Nat × Box)) (d : Nat) (x y : AV) (ts : List Nat), bltR E bx d .max [x, y] ts = maxR x y) ∧
  (∀ (k k' : IntKind) (a b : Int), minR (.c (.sc (.int k a))) (.c (.sc (.int k' b))) = iv (.int k (cond (decide (b < a)) b a))) ∧
  (∀ (k k' : IntKind) (a b : Int), maxR (.c (.sc (.int k a))) (.c (.sc (.int k' b))) = iv (.int k (cond (decide (a < b)) b a))) ∧
  (∀ (bx : List (Nat × Box)) (x : AV) (ti : TI), lenT bx x (some ti) = lenK bx x ti.kind) ∧
  (∀ (bx : List (Nat × Box)) (x : AV) (e : Nat), lenK bx x (.slice e) = lenSl bx x) ∧
  (∀ (bx : List (Nat × Box)) (x : AV), lenK bx x .str = lenSt x) ∧
  (∀ (bx : List (Nat × Box)) (xs : List (List D)), lenSl bx (.c (.sl xs)) = iv (.int .i64 xs.length)) ∧
  (∀ (bx : List (Nat × Box)), lenSl bx (.c (.sc (.slice none 0 0))) = iv (.int .i64 0)) ∧
  (∀ (bx : List (Nat × Box)) (id ver : Nat), lenSl bx (.osl id ver) = lenB ver (lookB id bx)) ∧
  (∀ (ver e v : Nat) (xs : List (List D)), lenB ver (.arr e v xs) = cond (v == ver) (iv (.int .i64 xs.length)) .bad) ∧
  (∀ (ver v : Nat) (xs : List (List D)), lenB ver (.frz v xs) = cond (v == ver) (iv (.int .i64 xs.length)) .bad) ∧
  (∀ (b : ByteArray), lenSt (.c (.sc (.string b))) = iv (.int .i64 b.size)) ∧
  (∀ (E : Env) (bx : List (Nat × Box)) (d : Nat) (x y : AV) (ti : TI), appAV E bx d x y (some ti) = appK E bx d x y ti.kind) ∧
  (∀ (E : Env) (bx : List (Nat × Box)) (d : Nat) (x y : AV) (e : Nat), appK E bx d x y (.slice e) = appE bx d e x y (E e)) ∧
  (∀ (bx : List (Nat × Box)) (d e : Nat) (x y : AV) (te : TI), appE bx d e x y (some te) = appX bx te.size te.bytes d e (srcD bx y) x) ∧
  (∀ (bx : List (Nat × Box)) (sz nb d e : Nat) (src : Option (List (List D)) ), appX bx sz nb d e src (.c (.sc (.slice none 0 0))) = appN sz nb d e src (lookB d bx)) ∧
  (∀ (bx : List (Nat × Box)) (sz nb d e id ver : Nat) (src : Option (List (List D)) ), appX bx sz nb d e src (.osl id ver) = appO sz nb id e ver src (lookB id bx)) ∧
  (∀ (sz nb d e : Nat) (src : Option (List (List D)) ), appN sz nb d e src .dead = appR sz nb d e 0 [] src) ∧
  (∀ (sz nb id e ver e' v : Nat) (xs : List (List D)) (src : Option (List (List D)) ), appO sz nb id e ver src (.arr e' v xs) = cond (v == ver && (e' == e)) (appR sz nb id e v xs src) .bad) ∧
  (∀ (sz nb id e ver : Nat) (xs ys : List (List D)), appR sz nb id e ver xs (some ys) = .ob ((xs.length + ys.length) * nb ≤ 140737488355328 ∧ AllLen sz ys) (.val (.osl id (ver + 1)) [(id, .arr e (ver + 1) (xs ++ ys))])) ∧
  (∀ (bx : List (Nat × Box)) (ys : List (List D)), srcD bx (.c (.sl ys)) = some ys) ∧
  (∀ (bx : List (Nat × Box)), srcD bx (.c (.sc (.slice none 0 0))) = some []) ∧
  (∀ (bx : List (Nat × Box)) (id ver : Nat), srcD bx (.osl id ver) = srcB ver (lookB id bx)) ∧
  (∀ (ver e v : Nat) (xs : List (List D)), srcB ver (.arr e v xs) = cond (v == ver) (some xs) none) ∧
  (∀ (ver v : Nat) (xs : List (List D)), srcB ver (.frz v xs) = cond (v == ver) (some xs) none) ∧
  (∀ (bx : List (Nat × Box)) (args : List AV) (f : Nat), callR bx args (.fn f []) = callN f args (normL bx args)) ∧
  (∀ (bx : List (Nat × Box)) (args : List AV) (f : Nat) (c : AV) (cs : List AV), callR bx args (.fn f (c :: cs)) = .callM f (args ++ (c :: cs))) ∧
  (∀ (f : Nat) (l raw : List AV) (u : Upd), callN f raw (some (l, u)) = .call f l u raw) ∧
  (∀ (f : Nat) (raw : List AV), callN f raw none = .callM f raw) ∧
  (∀ (bx : List (Nat × Box)) (id off : Nat), normA bx (.bp id off) = none) ∧
  (∀ (bx : List (Nat × Box)) (f : Nat) (cs : List AV), normA bx (.fn f cs) = none) ∧
  (∀ (bx : List (Nat × Box)) (id ver i sz off : Nat), normA bx (.op id ver i sz off) = none) ∧
  (∀ (o : Option (List AV × Upd)), and3 none o = none) ∧
  (∀ (x : AV × Upd), and3 (some x) none = none) ∧
  (∀ (caps : List AV) (f : Nat), mkFn caps 0 (.func f) = .val (.fn f caps) []) ∧
  (∀ (E : Env) (fr : List (Nat × AV)) (bx : List (Nat × Box)) (d : Nat) (f : Fn) (fst caps : List Operand), opR E ⟨fr, bx⟩ d (.makeFunc f fst.toArray caps.toArray) = mkFn (caps.map (ev fr)) fst.length f) ∧
  (∀ (f : Fn) (fst caps : List Operand), rd (.makeFunc f fst.toArray caps.toArray) = caps) ∧
  (∀ (bx : List (Nat × Box)), normL bx [] = some ([], [])) ∧
  (∀ (bx : List (Nat × Box)) (v : AV) (r : List AV), normL bx (v :: r) = and3 (normA bx v) (normL bx r)) ∧
  (∀ (v : AV) (u u' : Upd) (l : List AV), and3 (some (v, u)) (some (l, u')) = some (v :: l, u ++ u')) ∧
  (∀ (bx : List (Nat × Box)), normA bx (.c (.sc (.slice none 0 0))) = some (.c (.sl []), [])) := by
  refine ⟨?_, ?_, ?_, ?_, ?_, ?_, ?_, ?_, ?_, ?_, ?_, ?_, ?_, ?_, ?_, ?_, ?_, ?_, ?_, ?_, ?_, ?_, ?_, ?_, ?_, ?_, ?_, ?_, ?_, ?_, ?_, ?_, ?_, ?_, ?_, ?_, ?_, ?_, ?_, ?_, ?_, ?_, ?_, ?_, ?_, ?_, ?_, ?_, ?_, ?_, ?_, ?_, ?_, ?_, ?_, ?_, ?_, ?_, ?_, ?_⟩ <;> intros <;> first | rfl | (rename_i v _ _ _ _ _ _; cases v <;> rfl) | (rename_i v _ _ _; cases v <;> rfl) | (rename_i v _ _; cases v <;> rfl)

theorem V6 : (∀ (bx : List (Nat × Box)) (k : IntKind) (n : Int), normA bx (.c (.sc (.int k n))) = some (.c (.sc (.int k n)), [])) ∧
  (∀ (bx : List (Nat × Box)) (b : Bool), normA bx (.c (.sc (.bool b))) = some (.c (.sc (.bool b)), [])) ∧
  (∀ (bx : List (Nat × Box)) (b : ByteArray), normA bx (.c (.sc (.string b))) = some (.c (.sc (.string b)), [])) ∧
  (∀ (bx : List (Nat × Box)) (xs : List (List D)), normA bx (.c (.sl xs)) = some (.c (.sl xs), [])) ∧
  (∀ (bx : List (Nat × Box)) (ds : List D), normA bx (.ag ds) = some (.ag ds, [])) ∧
  (∀ (bx : List (Nat × Box)) (ds : List D), normA bx (.ip ds) = some (.ip ds, [])) ∧
  (∀ (bx : List (Nat × Box)) (id ver : Nat), normA bx (.osl id ver) = (toDB id ver (lookB id bx)).map fun p => (.c p.1, p.2)) ∧
  (∀ (x : D), isSc (.c x) = scD x) ∧
  (∀ (v : Value), scD (.sc v) = true) ∧
  (∀ (xs : List (List D)), scD (.sl xs) = false) ∧
  (∀ (ds : List D), isSc (.ag ds) = ds.all scD) ∧
  (∀ (vs : List AV), isSc (.tp vs) = vs.all fun | .c d => scD d | .ag ds => ds.all scD | _ => false) ∧
  (∀ (e : Nat) (xs : List (List D)), isSc (.fr e xs) = false) ∧
  (∀ (i : Nat), ren [] i = i) ∧
  (∀ (i a b : Nat) (r : List (Nat × Nat)), ren ((a, b) :: r) i = cond (i == a) b (ren r i)) ∧
  (∀ (ver ver0 e v e' v' : Nat) (xs xs' : List (List D)), SameO ver ver0 (.arr e v xs) (.arr e' v' xs') = (v = ver ∧ v' = ver0 ∧ e = e' ∧ xs = xs')) ∧
  (∀ (ver ver0 v v' : Nat) (xs xs' : List (List D)), SameO ver ver0 (.frz v xs) (.frz v' xs') = (v = ver ∧ v' = ver0 ∧ xs = xs')) ∧
  (∀ (id ver0 id' ver : Nat) (b b0 : Box), FitO id ver0 b b0 (.osl id' ver) = (id' = id ∧ SameO ver ver0 b b0)) ∧
  (∀ (cs cs' : List AV), bothC (.cells cs) (.cells cs') = True) ∧
  (∀ (id off0 id' off : Nat) (b b0 : Box), FitP id off0 b b0 (.bp id' off) = (id' = id ∧ off = off0 ∧ bothC b b0)) ∧
  (∀ (ver v : Nat) (x : D) (xs : List (List D)), FitZ ver x (.frz v xs) = (v = ver ∧ .sl xs = x)) ∧
  (∀ (bx : List (Nat × Box)) (x : D), FitC bx x (.c (.sc (.slice none 0 0))) = (x = .sc (.slice none 0 0) ∨ x = .sl [])) ∧
  (∀ (bx : List (Nat × Box)) (x : D) (xs : List (List D)), FitC bx x (.c (.sl xs)) = (.sl xs = x)) ∧
  (∀ (bx : List (Nat × Box)) (x : D) (k : IntKind) (n : Int), FitC bx x (.c (.sc (.int k n))) = (.sc (.int k n) = x)) ∧
  (∀ (bx : List (Nat × Box)) (x : D) (b : Bool), FitC bx x (.c (.sc (.bool b))) = (.sc (.bool b) = x)) ∧
  (∀ (bx : List (Nat × Box)) (x : D) (b : ByteArray), FitC bx x (.c (.sc (.string b))) = (.sc (.string b) = x)) ∧
  (∀ (bx : List (Nat × Box)) (x : D) (id ver : Nat), FitC bx x (.osl id ver) = FitZ ver x (lookB id bx)) ∧
  (∀ (ρ : List (Nat × Nat)) (bx : List (Nat × Box)) (bx0 : List (Nat × Box)) (v : AV), FitV0 ρ bx bx0 v .top = True) ∧
  (∀ (ρ : List (Nat × Nat)) (bx : List (Nat × Box)) (bx0 : List (Nat × Box)) (v : AV) (id0 ver0 : Nat), FitV0 ρ bx bx0 v (.osl id0 ver0) = FitO (ren ρ id0) ver0 (lookB (ren ρ id0) bx) (lookB id0 bx0) v) ∧
  (∀ (ρ : List (Nat × Nat)) (bx : List (Nat × Box)) (bx0 : List (Nat × Box)) (v : AV) (id0 off0 : Nat), FitV0 ρ bx bx0 v (.bp id0 off0) = FitP (ren ρ id0) off0 (lookB (ren ρ id0) bx) (lookB id0 bx0) v) ∧
  (∀ (ρ : List (Nat × Nat)) (bx : List (Nat × Box)) (bx0 : List (Nat × Box)) (v : AV) (x : D), FitV0 ρ bx bx0 v (.c x) = FitC bx x v) ∧
  (∀ (ρ : List (Nat × Nat)) (bx : List (Nat × Box)) (bx0 : List (Nat × Box)) (v : AV) (ds : List D), FitV0 ρ bx bx0 v (.ag ds) = (v = .ag ds)) ∧
  (∀ (ρ : List (Nat × Nat)) (bx : List (Nat × Box)) (bx0 : List (Nat × Box)) (v : AV) (ds : List D), FitV0 ρ bx bx0 v (.ip ds) = (v = .ip ds)) ∧
  (∀ (ρ : List (Nat × Nat)) (bx : List (Nat × Box)) (bx0 : List (Nat × Box)) (v : AV), FitV ρ bx bx0 v .top = True) ∧
  (∀ (ρ : List (Nat × Nat)) (bx : List (Nat × Box)) (bx0 : List (Nat × Box)) (v : AV) (id0 ver0 : Nat), FitV ρ bx bx0 v (.osl id0 ver0) = FitO (ren ρ id0) ver0 (lookB (ren ρ id0) bx) (lookB id0 bx0) v) ∧
  (∀ (ρ : List (Nat × Nat)) (bx : List (Nat × Box)) (bx0 : List (Nat × Box)) (v : AV) (id0 off0 : Nat), FitV ρ bx bx0 v (.bp id0 off0) = FitP (ren ρ id0) off0 (lookB (ren ρ id0) bx) (lookB id0 bx0) v) ∧
  (∀ (ρ : List (Nat × Nat)) (bx : List (Nat × Box)) (bx0 : List (Nat × Box)) (v : AV) (x : D), FitV ρ bx bx0 v (.c x) = FitC bx x v) ∧
  (∀ (ρ : List (Nat × Nat)) (bx : List (Nat × Box)) (bx0 : List (Nat × Box)) (v : AV) (ds : List D), FitV ρ bx bx0 v (.ag ds) = (v = .ag ds)) ∧
  (∀ (ρ : List (Nat × Nat)) (bx : List (Nat × Box)) (bx0 : List (Nat × Box)) (v : AV) (ds : List D), FitV ρ bx bx0 v (.ip ds) = (v = .ip ds)) ∧
  (∀ (ρ : List (Nat × Nat)) (bx : List (Nat × Box)) (bx0 : List (Nat × Box)) (v : AV) (f : Nat) (cs : List AV), FitV ρ bx bx0 v (.fn f cs) = FitF ρ bx bx0 f cs v) ∧
  (∀ (ρ : List (Nat × Nat)) (bx : List (Nat × Box)) (bx0 : List (Nat × Box)) (f f' : Nat) (cs cs0 : List AV), FitF ρ bx bx0 f cs0 (.fn f' cs) = (f' = f ∧ FitL0 ρ bx bx0 cs cs0)) ∧
  (∀ (ρ : List (Nat × Nat)) (bx : List (Nat × Box)) (bx0 : List (Nat × Box)), FitL0 ρ bx bx0 [] [] = True) ∧
  (∀ (ρ : List (Nat × Nat)) (bx : List (Nat × Box)) (bx0 : List (Nat × Box)) (v v0 : AV) (r r0 : List AV), FitL0 ρ bx bx0 (v :: r) (v0 :: r0) = (FitV0 ρ bx bx0 v v0 ∧ FitL0 ρ bx bx0 r r0)) ∧
  (∀ (ρ : List (Nat × Nat)) (bx : List (Nat × Box)) (bx0 : List (Nat × Box)), FitL ρ bx bx0 [] [] = True) ∧
  (∀ (ρ : List (Nat × Nat)) (bx : List (Nat × Box)) (bx0 : List (Nat × Box)) (v v0 : AV) (r r0 : List AV), FitL ρ bx bx0 (v :: r) (v0 :: r0) = (FitV ρ bx bx0 v v0 ∧ FitL ρ bx bx0 r r0)) ∧
  (∀ (id : Nat) (bx : List (Nat × Box)) (e v : Nat) (xs : List (List D)), frz1 id bx (.arr e v xs) = (id, .frz v xs) :: bx) ∧
  (∀ (bx : List (Nat × Box)), frzB [] bx = bx) ∧
  (∀ (id : Nat) (r : List Nat) (bx : List (Nat × Box)), frzB (id :: r) bx = frzB r (frz1 id bx (lookB id bx))) ∧
  (∀ (φ : List Nat) (fr : List (Nat × AV)) (bx : List (Nat × Box)), frzS φ ⟨fr, bx⟩ = ⟨fr, frzB φ bx⟩) ∧
  (∀ (id idr : Nat) (b b0 : Box), PinV id idr .dead b b0 = True) ∧
  (∀ (id idr : Nat) (cs cs0 : List AV) (b : Box), PinV id idr (.cells cs) b (.cells cs0) = (idr = id)) ∧
  (∀ (id idr e n e1 v e0 v0 : Nat) (xs xs1 xs0 : List (List D)), PinV id idr (.arr e n xs) (.arr e1 v xs1) (.arr e0 v0 xs0) = ((idr = id ∧ v0 = v) ∨ n < v0)) ∧
  (∀ (id idr e n v v0 : Nat) (xs xs1 xs0 : List (List D)), PinV id idr (.arr e n xs) (.frz v xs1) (.frz v0 xs0) = ((idr = id ∧ v0 = v) ∨ n < v0)) ∧
  (∀ (ρ : List (Nat × Nat)) (bx : List (Nat × Box)) (bx0 : List (Nat × Box)), PinL ρ bx bx0 [] = True) ∧
  (∀ (ρ : List (Nat × Nat)) (bx : List (Nat × Box)) (bx0 : List (Nat × Box)) (i : Nat) (b : Box) (r : List (Nat × Box)), PinL ρ bx bx0 ((i, b) :: r) = (PinV i (ren ρ i) b (lookB (ren ρ i) bx) (lookB i bx0) ∧ PinL ρ bx bx0 r)) ∧
  (∀ (e v : Nat) (xs : List (List D)), verB (.arr e v xs) = v) ∧
  (∀ (v : Nat) (xs : List (List D)), verB (.frz v xs) = v) ∧
  (∀ (cs : List AV), verB (.cells cs) = 0) ∧
  (verB .dead = 0) ∧
  (∀ (σ : List (Nat × Nat)) (bc : List (Nat × Box)) (bx : List (Nat × Box)) (id ver : Nat), renA σ bc bx (.osl id ver) = cond (decide (verB (lookB id bx) ≤ ver)) (.osl (ren σ id) (ver - verB (lookB id bx) + verB (lookB (ren σ id) bc))) .top) := by
  refine ⟨?_, ?_, ?_, ?_, ?_, ?_, ?_, ?_, ?_, ?_, ?_, ?_, ?_, ?_, ?_, ?_, ?_, ?_, ?_, ?_, ?_, ?_, ?_, ?_, ?_, ?_, ?_, ?_, ?_, ?_, ?_, ?_, ?_, ?_, ?_, ?_, ?_, ?_, ?_, ?_, ?_, ?_, ?_, ?_, ?_, ?_, ?_, ?_, ?_, ?_, ?_, ?_, ?_, ?_, ?_, ?_, ?_, ?_, ?_, ?_⟩ <;> intros <;> first | rfl | (rename_i v _ _ _ _ _ _; cases v <;> rfl) | (rename_i v _ _ _; cases v <;> rfl) | (rename_i v _ _; cases v <;> rfl)

theorem V7 : (∀ (σ : List (Nat × Nat)) (bc : List (Nat × Box)) (bx : List (Nat × Box)) (id off : Nat), renA σ bc bx (.bp id off) = .bp (ren σ id) off) ∧
  (∀ (σ : List (Nat × Nat)) (bc : List (Nat × Box)) (bx : List (Nat × Box)) (x : D), renA σ bc bx (.c x) = .c x) ∧
  (∀ (σ : List (Nat × Nat)) (bc : List (Nat × Box)) (bx : List (Nat × Box)) (ds : List D), renA σ bc bx (.ag ds) = .ag ds) ∧
  (∀ (σ : List (Nat × Nat)) (bc : List (Nat × Box)) (bx : List (Nat × Box)) (ds : List D), renA σ bc bx (.ip ds) = .ip ds) ∧
  (∀ (σ : List (Nat × Nat)) (bc : List (Nat × Box)) (bx : List (Nat × Box)) (f : Nat) (cs : List AV), renA σ bc bx (.fn f cs) = .fn f (renL σ bc bx cs)) ∧
  (∀ (σ : List (Nat × Nat)) (bc : List (Nat × Box)) (bx : List (Nat × Box)) (vs : List AV), renA σ bc bx (.tp vs) = .tp (renL σ bc bx vs)) ∧
  (∀ (σ : List (Nat × Nat)) (bc : List (Nat × Box)) (bx : List (Nat × Box)), renL σ bc bx [] = []) ∧
  (∀ (σ : List (Nat × Nat)) (bc : List (Nat × Box)) (bx : List (Nat × Box)) (v : AV) (r : List AV), renL σ bc bx (v :: r) = renA σ bc bx v :: renL σ bc bx r) ∧
  (∀ (σ : List (Nat × Nat)) (bc : List (Nat × Box)) (bx : List (Nat × Box)) (vc v0 : Nat) (cs : List AV), reB σ bc bx vc v0 (.cells cs) = .cells (renL σ bc bx cs)) ∧
  (∀ (σ : List (Nat × Nat)) (bc : List (Nat × Box)) (bx : List (Nat × Box)) (vc v0 e v : Nat) (xs : List (List D)), reB σ bc bx vc v0 (.arr e v xs) = .arr e (v - v0 + vc) xs) ∧
  (∀ (σ : List (Nat × Nat)) (bc : List (Nat × Box)) (bx : List (Nat × Box)) (vc v0 v : Nat) (xs : List (List D)), reB σ bc bx vc v0 (.frz v xs) = .frz (v - v0 + vc) xs) ∧
  (∀ (σ : List (Nat × Nat)) (bc : List (Nat × Box)) (bx : List (Nat × Box)), reU σ bc bx [] = []) ∧
  (∀ (σ : List (Nat × Nat)) (bc : List (Nat × Box)) (bx : List (Nat × Box)) (i : Nat) (b : Box) (r : List (Nat × Box)), reU σ bc bx ((i, b) :: r) = (ren σ i, reB σ bc bx (verB (lookB (ren σ i) bc)) (verB (lookB i bx)) b) :: reU σ bc bx r) ∧
  (cellsTop [] = true) ∧
  (∀ (v : AV) (r : List AV), cellsTop (v :: r) = cond (cellAV v) (cellsTop r) false) ∧
  (∀ (cs : List AV), boxTop (.cells cs) = cellsTop cs) ∧
  (∀ (e v : Nat) (xs : List (List D)), boxTop (.arr e v xs) = true) ∧
  (∀ (v : Nat) (xs : List (List D)), boxTop (.frz v xs) = true) ∧
  (updTop [] = true) ∧
  (∀ (i : Nat) (b : Box) (r : Upd), updTop ((i, b) :: r) = cond (boxTop b) (updTop r) false) ∧
  (∀ (x : D), cellAV (.c x) = true) ∧
  (∀ (id ver : Nat), cellAV (.osl id ver) = true) ∧
  (∀ (id off : Nat), cellAV (.bp id off) = true) ∧
  (∀ (id ver i sz off : Nat), cellAV (.op id ver i sz off) = true) ∧
  (∀ (ds : List D), cellAV (.ip ds) = true) ∧
  (∀ (f : Nat) (cs : List AV), cellAV (.fn f cs) = true) ∧
  (cellAV .top = false) ∧
  (∀ (b : Box), New1 .dead b = (b = .dead)) ∧
  (∀ (e v : Nat) (xs : List (List D)) (b : Box), New1 (.arr e v xs) b = True) ∧
  (∀ (v : Nat) (xs : List (List D)) (b : Box), New1 (.frz v xs) b = True) ∧
  (∀ (cs : List AV) (b : Box), New1 (.cells cs) b = True) ∧
  (∀ (σ : List (Nat × Nat)) (bc : List (Nat × Box)) (bx : List (Nat × Box)), NewL σ bc bx [] = True) ∧
  (∀ (σ : List (Nat × Nat)) (bc : List (Nat × Box)) (bx : List (Nat × Box)) (i : Nat) (b : Box) (r : List (Nat × Box)), NewL σ bc bx ((i, b) :: r) = (New1 (lookB i bx) (lookB (ren σ i) bc) ∧ NewL σ bc bx r)) ∧
  (∀ (t : Nat) (r : AV), retFr [t] r = some [(t, r)]) ∧
  (∀ (rs : List AV), retFr [] (.tp rs) = cond (([] : List Nat).length == rs.length) (some (zipR [] rs)) none) ∧
  (∀ (t t' : Nat) (ts : List Nat) (rs : List AV), retFr (t :: t' :: ts) (.tp rs) = cond ((t :: t' :: ts).length == rs.length) (some (zipR (t :: t' :: ts) rs)) none) ∧
  (zipR [] [] = []) ∧
  (∀ (t : Nat) (r : AV) (ts : List Nat) (rs : List AV), zipR (t :: ts) (r :: rs) = (t, r) :: zipR ts rs) ∧
  (∀ (E : Env) (pb : List (Nat × Box)) (bx1 : List (Nat × Box)) (s : S) (fr : List (Nat × AV)), RetM E pb bx1 s (some fr) = Enter E pb s ⟨fr, bx1⟩) ∧
  (∀ (E : Env) (pb : List (Nat × Box)) (ts : List Nat) (r : AV) (bx1 : List (Nat × Box)) (s : S), retM E pb ts r bx1 .normal s = RetM E pb bx1 s (retFr ts r)) ∧
  (∀ (E : Env) (pb : List (Nat × Box)) (ts : List Nat) (r : AV) (bx1 : List (Nat × Box)) (s : S), retM E pb ts r bx1 .ret s = RetM E pb bx1 s (retFr ts r)) ∧
  (∀ (ρ : List (Nat × Nat)) (bx bx0 : List (Nat × Box)), FitCs ρ bx bx0 [] [] = True) ∧
  (∀ (ρ : List (Nat × Nat)) (bx bx0 : List (Nat × Box)) (v v0 : AV) (r r0 : List AV), FitCs ρ bx bx0 (v :: r) (v0 :: r0) = ((FitV ρ bx bx0 v v0 ∧ cellAV v0 = true) ∧ FitCs ρ bx bx0 r r0)) ∧
  (∀ (ρ : List (Nat × Nat)) (bx bx0 : List (Nat × Box)) (e v e' v' : Nat) (xs xs' : List (List D)), FitB ρ bx bx0 (.arr e v xs) (.arr e' v' xs') = (e = e' ∧ xs = xs')) ∧
  (∀ (ρ : List (Nat × Nat)) (bx bx0 : List (Nat × Box)) (v v' : Nat) (xs xs' : List (List D)), FitB ρ bx bx0 (.frz v xs) (.frz v' xs') = (xs = xs')) ∧
  (∀ (ρ : List (Nat × Nat)) (bx bx0 : List (Nat × Box)) (cs cs' : List AV), FitB ρ bx bx0 (.cells cs) (.cells cs') = FitCs ρ bx bx0 cs cs') ∧
  (∀ (ρ : List (Nat × Nat)) (s : S) (bx0 : List (Nat × Box)), LeF ρ s bx0 [] = True) ∧
  (∀ (ρ : List (Nat × Nat)) (fr : List (Nat × AV)) (bx : List (Nat × Box)) (bx0 : List (Nat × Box)) (i : Nat) (v : AV) (r : List (Nat × AV)), LeF ρ ⟨fr, bx⟩ bx0 ((i, v) :: r) = (FitV ρ bx bx0 (look i fr) v ∧ LeF ρ ⟨fr, bx⟩ bx0 r)) ∧
  (∀ (ρ : List (Nat × Nat)) (s : S) (bx0 : List (Nat × Box)), LeB ρ s bx0 [] = True) ∧
  (∀ (ρ : List (Nat × Nat)) (fr : List (Nat × AV)) (bx : List (Nat × Box)) (bx0 : List (Nat × Box)) (i : Nat) (b : Box) (r : List (Nat × Box)), LeB ρ ⟨fr, bx⟩ bx0 ((i, b) :: r) = (FitB ρ bx bx0 (lookB (ren ρ i) bx) b ∧ LeB ρ ⟨fr, bx⟩ bx0 r)) ∧
  (∀ (ρ : List (Nat × Nat)) (seen : List Nat), nodupR ρ [] seen = true) ∧
  (∀ (ρ : List (Nat × Nat)) (i : Nat) (b : Box) (r : List (Nat × Box)) (seen : List Nat), nodupR ρ ((i, b) :: r) seen = cond (memN (ren ρ i) seen) false (nodupR ρ r (ren ρ i :: seen))) ∧
  (∀ (ρ : List (Nat × Nat)) (s : S) (fr0 : List (Nat × AV)) (bx0 : List (Nat × Box)), Into ρ s ⟨fr0, bx0⟩ = (LeF ρ s bx0 fr0 ∧ LeB ρ s bx0 bx0 ∧ nodupR ρ bx0 [] = true)) ∧
  (∀ (E : Env) (s : S), OwnsOK E [] s = True) ∧
  (∀ (E : Env) (fr : List (Nat × AV)) (bx : List (Nat × Box)) (i id e : Nat) (r : List (Nat × (Nat × Nat)) ), OwnsOK E ((i, (id, e)) :: r) ⟨fr, bx⟩ = (look i fr = .c (.sc (.slice none 0 0)) ∧ lookB id bx = .dead ∧ (E e).isSome = true ∧ OwnsOK E r ⟨(i, .osl id 0) :: fr, (id, .arr e 0 []) :: bx⟩)) ∧
  (∀ (s : S), ownS [] s = s) ∧
  (∀ (fr : List (Nat × AV)) (bx : List (Nat × Box)) (i id e : Nat) (r : List (Nat × (Nat × Nat)) ), ownS ((i, (id, e)) :: r) ⟨fr, bx⟩ = ownS r ⟨(i, .osl id 0) :: fr, (id, .arr e 0 []) :: bx⟩) ∧
  (∀ (x d : D) (u : Upd), RetC (some (x, u)) d = (x = d)) ∧
  (∀ (e ver e' v' : Nat) (xs xs' : List (List D)), RetB e ver xs (.arr e' v' xs') = (e' = e ∧ v' = ver ∧ xs' = xs)) ∧
  (∀ (E : Env) (e id ver : Nat) (xs : List (List D)) (bx : List (Nat × Box)), RetF E e xs bx (.osl id ver) = RetB e ver xs (lookB id bx)) := by
  refine ⟨?_, ?_, ?_, ?_, ?_, ?_, ?_, ?_, ?_, ?_, ?_, ?_, ?_, ?_, ?_, ?_, ?_, ?_, ?_, ?_, ?_, ?_, ?_, ?_, ?_, ?_, ?_, ?_, ?_, ?_, ?_, ?_, ?_, ?_, ?_, ?_, ?_, ?_, ?_, ?_, ?_, ?_, ?_, ?_, ?_, ?_, ?_, ?_, ?_, ?_, ?_, ?_, ?_, ?_, ?_, ?_, ?_, ?_, ?_, ?_⟩ <;> intros <;> first | rfl | (rename_i v _ _ _ _ _ _; cases v <;> rfl) | (rename_i v _ _ _; cases v <;> rfl) | (rename_i v _ _; cases v <;> rfl)

theorem V8 : (∀ (E : Env) (e : Nat) (xs : List (List D)) (bx : List (Nat × Box)), RetF E e xs bx (.c (.sc (.slice none 0 0))) = (xs = [] ∧ (E e).isSome = true)) ∧
  (∀ (E : Env) (bx : List (Nat × Box)) (v : AV) (x : D), Ret1 E bx v (.c x) = RetC (toD bx v) x) ∧
  (∀ (E : Env) (bx : List (Nat × Box)) (v : AV) (ds : List D), Ret1 E bx v (.ag ds) = (v = .ag ds)) ∧
  (∀ (E : Env) (bx : List (Nat × Box)) (v : AV) (e : Nat) (xs : List (List D)), Ret1 E bx v (.fr e xs) = RetF E e xs bx v) ∧
  (∀ (E : Env) (bx : List (Nat × Box)), RetL E bx [] [] = True) ∧
  (∀ (E : Env) (bx : List (Nat × Box)) (v r : AV) (vs rs : List AV), RetL E bx (v :: vs) (r :: rs) = (Ret1 E bx v r ∧ RetL E bx vs rs)) ∧
  (∀ (E : Env) (bx : List (Nat × Box)) (vs rs : List AV), RetT E bx vs (.tp rs) = (RetL E bx vs rs ∧ disjN (frIds vs rs) (frzIds bx vs rs) = true)) ∧
  (∀ (E : Env) (r : AV) (bx : List (Nat × Box)) (v : AV), RetVC E r bx [v] = Ret1 E bx v r) ∧
  (∀ (E : Env) (r : AV) (bx : List (Nat × Box)), RetVC E r bx [] = RetT E bx [] r) ∧
  (∀ (E : Env) (r : AV) (bx : List (Nat × Box)) (v v' : AV) (vs : List AV), RetVC E r bx (v :: v' :: vs) = RetT E bx (v :: v' :: vs) r) ∧
  (frIds [] [] = []) ∧
  (∀ (id ver e : Nat) (xs : List (List D)) (vs rs : List AV), frIds (.osl id ver :: vs) (.fr e xs :: rs) = id :: frIds vs rs) ∧
  (∀ (v : AV) (x : D) (vs rs : List AV), frIds (v :: vs) (.c x :: rs) = frIds vs rs) ∧
  (∀ (v : AV) (ds : List D) (vs rs : List AV), frIds (v :: vs) (.ag ds :: rs) = frIds vs rs) ∧
  (∀ (x : D) (r : AV) (vs rs : List AV), frIds (.c x :: vs) (r :: rs) = frIds vs rs) ∧
  (∀ (bx : List (Nat × Box)), frzIds bx [] [] = []) ∧
  (∀ (bx : List (Nat × Box)) (v : AV) (x : D) (vs rs : List AV), frzIds bx (v :: vs) (.c x :: rs) = toDK (toD bx v) ++ frzIds bx vs rs) ∧
  (∀ (bx : List (Nat × Box)) (v : AV) (ds : List D) (vs rs : List AV), frzIds bx (v :: vs) (.ag ds :: rs) = frzIds bx vs rs) ∧
  (∀ (bx : List (Nat × Box)) (v : AV) (e : Nat) (xs : List (List D)) (vs rs : List AV), frzIds bx (v :: vs) (.fr e xs :: rs) = frzIds bx vs rs) ∧
  (∀ (x : D) (u : Upd), toDK (some (x, u)) = keysU u) ∧
  (∀ (E : Env) (ts : List Nat) (r : AV) (fr : List (Nat × AV)) (bx : List (Nat × Box)), retQ E ts r .normal ⟨fr, bx⟩ = RetVC E r bx (ts.map (look · fr))) ∧
  (∀ (E : Env) (ts : List Nat) (r : AV) (fr : List (Nat × AV)) (bx : List (Nat × Box)), retQ E ts r .ret ⟨fr, bx⟩ = RetVC E r bx (ts.map (look · fr))) ∧
  (∀ (i : Nat), frOf i [] = []) ∧
  (∀ (i : Nat) (v : AV) (r : List AV), frOf i (v :: r) = (i, v) :: frOf (i + 1) r) ∧
  (∀ (args : List AV), argsS args = ⟨frOf 0 args, []⟩) ∧
  (∀ (E : Env) (fr : List (Nat × AV)) (bx : List (Nat × Box)) (d : Nat) (t : Nat), opR E ⟨fr, bx⟩ d (.makeMap t none) = mkMapAV bx d (E t)) ∧
  (∀ (E : Env) (fr : List (Nat × AV)) (bx : List (Nat × Box)) (d : Nat) (t : Nat) (x k : Operand) (c : Bool), opR E ⟨fr, bx⟩ d (.lookup t x k c) = lookAV E bx (ev fr x) (ev fr k) c (E t)) ∧
  (∀ (E : Env) (fr : List (Nat × AV)) (bx : List (Nat × Box)) (d : Nat) (t : Nat) (x k y : Operand), opR E ⟨fr, bx⟩ d (.mapUpdate t x k y) = updAV E bx (ev fr x) (ev fr k) (ev fr y) (E t)) ∧
  (∀ (bx : List (Nat × Box)) (d : Nat) (n b k e : Nat) (z : List Value), mkMapAV bx d (some ⟨n, b, z, .map k e⟩) = mkMapK d k e (lookB d bx)) ∧
  (∀ (d kt et : Nat), mkMapK d kt et .dead = .val (.mp d) [(d, .map kt et [])]) ∧
  (∀ (E : Env) (bx : List (Nat × Box)) (x k : AV) (c : Bool) (n b kt et : Nat) (z : List Value), lookAV E bx x k c (some ⟨n, b, z, .map kt et⟩) = lookX E bx c kt et k x) ∧
  (∀ (E : Env) (bx : List (Nat × Box)) (c : Bool) (kt et id : Nat) (k : Value), lookX E bx c kt et (.c (.sc k)) (.mp id) = lookBx E c kt et k (lookB id bx)) ∧
  (∀ (E : Env) (c : Bool) (kt et kt' et' : Nat) (k : Value) (es : List (Value × Value)), lookBx E c kt et k (.map kt' et' es) = cond (kt == kt' && (et == et' && keyOK (kindOf (E kt)) k)) (lookZ c (mfind k es) (E et)) .bad) ∧
  (∀ (c : Bool) (r : Option Value) (n b : Nat) (z : Value) (kd : TK), lookZ c r (some ⟨n, b, [z], kd⟩) = cond (kAgg kd) .bad (lookOpt c z r)) ∧
  (∀ (z v : Value), lookOpt true z (some v) = .val (.tp [.c (.sc v), .c (.sc (.bool true))]) []) ∧
  (∀ (z v : Value), lookOpt false z (some v) = .val (.c (.sc v)) []) ∧
  (∀ (z : Value), lookOpt true z none = .val (.tp [.c (zD z), .c (.sc (.bool false))]) []) ∧
  (∀ (z : Value), lookOpt false z none = .val (.c (zD z)) []) ∧
  (∀ (ti : TI), kindOf (some ti) = ti.kind) ∧
  (∀ (k k' : IntKind) (n : Int), keyOK (.int k') (.int k n) = decide (k = k')) ∧
  (∀ (b : ByteArray), keyOK .str (.string b) = true) ∧
  (∀ (E : Env) (bx : List (Nat × Box)) (x k y : AV) (n b kt et : Nat) (z : List Value), updAV E bx x k y (some ⟨n, b, z, .map kt et⟩) = updX E bx kt et k y x) ∧
  (∀ (E : Env) (bx : List (Nat × Box)) (kt et id : Nat) (k y : Value), updX E bx kt et (.c (.sc k)) (.c (.sc y)) (.mp id) = updBx E id kt et k y (lookB id bx)) ∧
  (∀ (E : Env) (id kt et kt' et' : Nat) (k y : Value) (es : List (Value × Value)), updBx E id kt et k y (.map kt' et' es) = cond (kt == kt' && (et == et' && keyOK (kindOf (E kt)) k)) (.val .top [(id, .map kt et (mput k y es))]) .bad) ∧
  (∀ (bx : List (Nat × Box)) (x : AV) (k e : Nat), lenK bx x (.map k e) = lenM bx x) ∧
  (∀ (bx : List (Nat × Box)) (id : Nat), lenM bx (.mp id) = lenMB (lookB id bx)) ∧
  (∀ (kt et : Nat) (es : List (Value × Value)), lenMB (.map kt et es) = iv (.int .i64 es.length)) ∧
  (∀ (id : Nat), cellsOf (.mp id) = [.mp id]) ∧
  (∀ (id : Nat), okCells (.mp id) = true) ∧
  (∀ (id : Nat), cellAV (.mp id) = true) ∧
  (∀ (id : Nat), refs (.mp id) = [id]) ∧
  (∀ (t : Nat) (r : Option Operand), rd (.makeMap t r) = []) ∧
  (∀ (t : Nat) (x k : Operand) (c : Bool), rd (.lookup t x k c) = [x, k]) ∧
  (∀ (t : Nat) (x k y : Operand), rd (.mapUpdate t x k y) = [x, k, y]) ∧
  (∀ (n b k e : Nat) (z : List Value) (ds : List D), loadD ⟨n, b, z, .map k e⟩ ds = headR ds) ∧
  (∀ (n b k e : Nat) (z : List Value) (ds : List AV), loadC ⟨n, b, z, .map k e⟩ ds = headA ds) ∧
  (∀ (id id' : Nat) (b b0 : Box), FitM id b b0 (.mp id') = (id' = id ∧ bothM b b0)) ∧
  (∀ (kt et kt' et' : Nat) (es es' : List (Value × Value)), bothM (.map kt et es) (.map kt' et' es') = True) ∧
  (∀ (ρ : List (Nat × Nat)) (bx : List (Nat × Box)) (bx0 : List (Nat × Box)) (v : AV) (id0 : Nat), FitV0 ρ bx bx0 v (.mp id0) = FitM (ren ρ id0) (lookB (ren ρ id0) bx) (lookB id0 bx0) v) ∧
  (∀ (ρ : List (Nat × Nat)) (bx : List (Nat × Box)) (bx0 : List (Nat × Box)) (v : AV) (id0 : Nat), FitV ρ bx bx0 v (.mp id0) = FitM (ren ρ id0) (lookB (ren ρ id0) bx) (lookB id0 bx0) v) := by
  refine ⟨?_, ?_, ?_, ?_, ?_, ?_, ?_, ?_, ?_, ?_, ?_, ?_, ?_, ?_, ?_, ?_, ?_, ?_, ?_, ?_, ?_, ?_, ?_, ?_, ?_, ?_, ?_, ?_, ?_, ?_, ?_, ?_, ?_, ?_, ?_, ?_, ?_, ?_, ?_, ?_, ?_, ?_, ?_, ?_, ?_, ?_, ?_, ?_, ?_, ?_, ?_, ?_, ?_, ?_, ?_, ?_, ?_, ?_, ?_, ?_⟩ <;> intros <;> first | rfl | (rename_i v _ _ _ _ _ _; cases v <;> rfl) | (rename_i v _ _ _; cases v <;> rfl) | (rename_i v _ _; cases v <;> rfl)

theorem V9 : (∀ (ρ : List (Nat × Nat)) (bx : List (Nat × Box)) (bx0 : List (Nat × Box)) (kt et kt' et' : Nat) (es es' : List (Value × Value)), FitB ρ bx bx0 (.map kt et es) (.map kt' et' es') = (kt = kt' ∧ et = et' ∧ es = es')) ∧
  (∀ (id idr kt et kt' et' : Nat) (es es' : List (Value × Value)) (b : Box), PinV id idr (.map kt et es) b (.map kt' et' es') = (idr = id)) ∧
  (∀ (σ : List (Nat × Nat)) (bc : List (Nat × Box)) (bx : List (Nat × Box)) (id : Nat), renA σ bc bx (.mp id) = .mp (ren σ id)) ∧
  (∀ (σ : List (Nat × Nat)) (bc : List (Nat × Box)) (bx : List (Nat × Box)) (vc v0 kt et : Nat) (es : List (Value × Value)), reB σ bc bx vc v0 (.map kt et es) = .map kt et es) ∧
  (∀ (kt et : Nat) (es : List (Value × Value)), boxTop (.map kt et es) = true) ∧
  (∀ (kt et : Nat) (es : List (Value × Value)) (b : Box), New1 (.map kt et es) b = True) ∧
  (∀ (kt et : Nat) (es : List (Value × Value)), verB (.map kt et es) = 0) ∧
  (∀ (k : Value), mfind k [] = none) ∧
  (∀ (k v : Value), mput k v [] = [(k, v)]) ∧
  (refsL [] = []) ∧
  (∀ (v : AV) (r : List AV), refsL (v :: r) = refs v ++ refsL r) ∧
  (refs .top = []) ∧
  (∀ (x : D), refs (.c x) = []) ∧
  (∀ (ds : List D), refs (.ag ds) = []) ∧
  (∀ (ds : List D), refs (.ip ds) = []) ∧
  (∀ (id ver : Nat), refs (.osl id ver) = [id]) ∧
  (∀ (id off : Nat), refs (.bp id off) = [id]) ∧
  (∀ (id ver i sz off : Nat), refs (.op id ver i sz off) = [id]) ∧
  (∀ (vs : List AV), refs (.tp vs) = refsL vs) ∧
  (∀ (f : Nat) (cs : List AV), refs (.fn f cs) = refsL cs) ∧
  (∀ (x : Operand), rd (.move x) = [x]) ∧
  (∀ (x : Operand), rd (.assign x) = [x]) ∧
  (∀ (c a b : Operand), rd (.pick c a b) = [c, a, b]) ∧
  (∀ (t : Nat), rd (.alloc t) = []) ∧
  (∀ (t : Nat) (x : Operand), rd (.box t x) = [x]) ∧
  (∀ (t : Nat) (ps : List (Nat × Operand)), rd (.build t ps.toArray) = ps.map (·.2)) ∧
  (∀ (t n : Nat) (ps : List (Nat × Operand)), rd (.buildSlice t n ps.toArray) = ps.map (·.2)) ∧
  (∀ (t : Nat) (p : Operand), rd (.load t p) = [p]) ∧
  (∀ (t : Nat) (p x : Operand), rd (.store t p x) = [p, x]) ∧
  (∀ (x : Operand), rd (.nilCheck x) = [x]) ∧
  (∀ (t : Nat) (x i : Operand), rd (.indexAddr t x i) = [x, i]) ∧
  (∀ (t : Nat) (x i : Operand), rd (.index t x i) = [x, i]) ∧
  (∀ (t f : Nat) (x : Operand), rd (.fieldAddr t x f) = [x]) ∧
  (∀ (t f : Nat) (x : Operand), rd (.field t x f) = [x]) ∧
  (∀ (t : Nat) (x : Operand) (lo hi mx : Option Operand), rd (.slice t x lo hi mx) = x :: (lo.toList ++ hi.toList)) ∧
  (∀ (op : BinOp) (t t' : Nat) (x y : Operand), rd (.binOp op t x y t') = [x, y]) ∧
  (∀ (op : UnOp) (t : Nat) (x : Operand), rd (.unOp op t x) = [x]) ∧
  (∀ (t t' : Nat) (x : Operand), rd (.convert t t' x) = [x]) ∧
  (∀ (t : Nat) (l c : Operand), rd (.makeSlice t l c) = [l, c]) ∧
  (∀ (i : Nat) (x : Operand), rd (.extract x i) = [x]) ∧
  (∀ (f : Operand) (l : List Operand) (ts : Array Nat), rd (.call ⟨.value f, l.toArray, ts⟩) = f :: l) ∧
  (∀ (b : Builtin) (l : List Operand) (ts : Array Nat), rd (.call ⟨.builtin b, l.toArray, ts⟩) = l) ∧
  (∀ (k : IntKind) (a b : Int), intBin .add k a b = iv (.int k (k.wrap (a + b)))) ∧
  (∀ (k k' : IntKind) (a b : Int), binI .add k k' a b = cond (decide (k = k')) (intBin .add k a b) .bad) ∧
  (∀ (k : IntKind) (a b : Int), intBin .sub k a b = iv (.int k (k.wrap (a - b)))) ∧
  (∀ (k k' : IntKind) (a b : Int), binI .sub k k' a b = cond (decide (k = k')) (intBin .sub k a b) .bad) ∧
  (∀ (k : IntKind) (a b : Int), intBin .mul k a b = iv (.int k (k.wrap (a * b)))) ∧
  (∀ (k k' : IntKind) (a b : Int), binI .mul k k' a b = cond (decide (k = k')) (intBin .mul k a b) .bad) ∧
  (∀ (k : IntKind) (a b : Int), intBin .quo k a b = .ob (b ≠ 0) (iv (.int k (k.wrap (a.tdiv b))))) ∧
  (∀ (k k' : IntKind) (a b : Int), binI .quo k k' a b = cond (decide (k = k')) (intBin .quo k a b) .bad) ∧
  (∀ (k : IntKind) (a b : Int), intBin .rem k a b = .ob (b ≠ 0) (iv (.int k (a.tmod b)))) ∧
  (∀ (k k' : IntKind) (a b : Int), binI .rem k k' a b = cond (decide (k = k')) (intBin .rem k a b) .bad) ∧
  (∀ (k : IntKind) (a b : Int), intBin .eql k a b = iv (.bool (a == b))) ∧
  (∀ (k k' : IntKind) (a b : Int), binI .eql k k' a b = cond (decide (k = k')) (intBin .eql k a b) .bad) ∧
  (∀ (k : IntKind) (a b : Int), intBin .neq k a b = iv (.bool (a != b))) ∧
  (∀ (k k' : IntKind) (a b : Int), binI .neq k k' a b = cond (decide (k = k')) (intBin .neq k a b) .bad) ∧
  (∀ (k : IntKind) (a b : Int), intBin .lss k a b = iv (.bool (decide (a < b)))) ∧
  (∀ (k k' : IntKind) (a b : Int), binI .lss k k' a b = cond (decide (k = k')) (intBin .lss k a b) .bad) ∧
  (∀ (k : IntKind) (a b : Int), intBin .leq k a b = iv (.bool (decide (a ≤ b)))) ∧
  (∀ (k k' : IntKind) (a b : Int), binI .leq k k' a b = cond (decide (k = k')) (intBin .leq k a b) .bad) := by
  refine ⟨?_, ?_, ?_, ?_, ?_, ?_, ?_, ?_, ?_, ?_, ?_, ?_, ?_, ?_, ?_, ?_, ?_, ?_, ?_, ?_, ?_, ?_, ?_, ?_, ?_, ?_, ?_, ?_, ?_, ?_, ?_, ?_, ?_, ?_, ?_, ?_, ?_, ?_, ?_, ?_, ?_, ?_, ?_, ?_, ?_, ?_, ?_, ?_, ?_, ?_, ?_, ?_, ?_, ?_, ?_, ?_, ?_, ?_, ?_, ?_⟩ <;> intros <;> first | rfl | (rename_i v _ _ _ _ _ _; cases v <;> rfl) | (rename_i v _ _ _; cases v <;> rfl) | (rename_i v _ _; cases v <;> rfl)

theorem V10 : (∀ (k : IntKind) (a b : Int), intBin .gtr k a b = iv (.bool (decide (b < a)))) ∧
  (∀ (k k' : IntKind) (a b : Int), binI .gtr k k' a b = cond (decide (k = k')) (intBin .gtr k a b) .bad) ∧
  (∀ (k : IntKind) (a b : Int), intBin .geq k a b = iv (.bool (decide (b ≤ a)))) ∧
  (∀ (k k' : IntKind) (a b : Int), binI .geq k k' a b = cond (decide (k = k')) (intBin .geq k a b) .bad) ∧
  (∀ (k : IntKind) (a b : Int), intBin .and k a b = iv (.int k (bits .and k a b))) ∧
  (∀ (k k' : IntKind) (a b : Int), binI .and k k' a b = cond (decide (k = k')) (intBin .and k a b) .bad) ∧
  (∀ (k : IntKind) (a b : Int), intBin .or k a b = iv (.int k (bits .or k a b))) ∧
  (∀ (k k' : IntKind) (a b : Int), binI .or k k' a b = cond (decide (k = k')) (intBin .or k a b) .bad) ∧
  (∀ (k : IntKind) (a b : Int), intBin .xor k a b = iv (.int k (bits .xor k a b))) ∧
  (∀ (k k' : IntKind) (a b : Int), binI .xor k k' a b = cond (decide (k = k')) (intBin .xor k a b) .bad) ∧
  (∀ (k : IntKind) (a b : Int), intBin .andNot k a b = iv (.int k (bits .andNot k a b))) ∧
  (∀ (k k' : IntKind) (a b : Int), binI .andNot k k' a b = cond (decide (k = k')) (intBin .andNot k a b) .bad) ∧
  (∀ (k k' : IntKind) (a b : Int), eqI [.sc (.int k a)] [.sc (.int k' b)] = cond (decide (k = k')) (some (a == b)) none) ∧
  (∀ (E : Env) (op : BinOp) (ti : Option TI), binAV E op ti (.c (.sc (.slice none 0 0))) (.c (.sc (.slice none 0 0))) = nilT op true ti) ∧
  (∀ (E : Env) (op : BinOp) (ti : Option TI) (xs : List (List D)), binAV E op ti (.c (.sl xs)) (.c (.sc (.slice none 0 0))) = .ob (xs ≠ []) (nilT op false ti)) ∧
  (∀ (op : BinOp) (t : Bool) (ti : TI), nilT op t (some ti) = nilK op t ti.kind) ∧
  (∀ (op : BinOp) (t : Bool) (e : Nat), nilK op t (.slice e) = nilB op t) ∧
  (∀ (t : Bool), nilB .eql t = iv (.bool t)) ∧
  (∀ (t : Bool), nilB .neq t = iv (.bool (!t))) ∧
  (∀ (i : Nat) (K : S → Prop) (Q : Exit → S → Prop) (s : S), cutQ i K Q .normal s = Q .normal s) ∧
  (∀ (i : Nat) (K : S → Prop) (Q : Exit → S → Prop) (s : S), cutQ i K Q .ret s = Q .ret s) ∧
  (∀ (i j : Nat) (K : S → Prop) (Q : Exit → S → Prop) (s : S), cutQ i K Q (.exit j) s = cond (i == j) (K s) (Q (.exit j) s)) := by
  refine ⟨?_, ?_, ?_, ?_, ?_, ?_, ?_, ?_, ?_, ?_, ?_, ?_, ?_, ?_, ?_, ?_, ?_, ?_, ?_, ?_, ?_, ?_⟩ <;> intros <;> first | rfl | (rename_i v _ _ _ _ _ _; cases v <;> rfl) | (rename_i v _ _ _; cases v <;> rfl) | (rename_i v _ _; cases v <;> rfl)


end Go.Vx
end

section
set_option linter.unusedVariables false
set_option linter.unusedSimpArgs false
namespace Go.Vx
open Go

theorem VL : (∀ (α : Type) (a b : α), (some a).getD b = a) ∧ (∀ (α : Type) (a b : α), cond true a b = a) ∧ (∀ (α : Type) (a b : α), cond false a b = b) ∧
  (∀ (α : Type) (l : List α), [] ++ l = l) ∧ (∀ (α : Type) (l : List α), l ++ [] = l) ∧ (∀ (α : Type) (a : α) (l m : List α), (a :: l) ++ m = a :: (l ++ m)) ∧
  (∀ (α β : Type) (f : α → β) (a : α), (some a).map f = some (f a)) ∧ (∀ (α β : Type) (f : α → β), (none : Option α).map f = none) ∧
  (∀ (α β : Type) (f : α → β) (a : α) (l : List α), (a :: l).map f = f a :: l.map f) ∧ (∀ (α β : Type) (f : α → β), ([] : List α).map f = []) ∧
  (∀ (α : Type) (l : List α), l.drop 0 = l) ∧ (∀ (α : Type) (a : α) (l : List α) (n : Nat), (a :: l).drop (n + 1) = l.drop n) ∧ (∀ (α : Type) (a : α) (l : List α) (n : Nat), (a :: l).take (n + 1) = a :: l.take n) ∧
  (∀ (α : Type) (l : List α), l.take 0 = []) ∧ (∀ (α : Type) (n : Nat), ([] : List α).drop n = []) ∧ (∀ (α : Type) (n : Nat), ([] : List α).take n = []) ∧
  (∀ (α : Type) (a : α) (l : List α), (a :: l).length = l.length + 1) ∧ (∀ (α : Type), ([] : List α).length = 0) ∧
  (∀ (α : Type) (a : α) (l : List α), (a :: l)[0]? = some a) ∧ (∀ (α : Type) (a : α) (l : List α) (n : Nat), (a :: l)[n + 1]? = l[n]?) ∧
  (∀ (α β : Type) (f : α → β) (l : List α), (l.map f).length = l.length) ∧ (∀ (α : Type) (a : α), (a = a) = True) := by
  refine ⟨?_, ?_, ?_, ?_, ?_, ?_, ?_, ?_, ?_, ?_, ?_, ?_, ?_, ?_, ?_, ?_, ?_, ?_, ?_, ?_, ?_, ?_⟩ <;> intros <;> simp
theorem VB : (∀ b : Bool, (false == b) = !b) ∧ (∀ b : Bool, (true == b) = b) ∧ (∀ b : Bool, (b == true) = b) ∧ (∀ b : Bool, (b == false) = !b) ∧ ((!true) = false) ∧ ((!false) = true) ∧ (∀ b : Bool, (!!b) = b) ∧
  (∀ h : Decidable True, @decide True h = true) ∧ (∀ h : Decidable False, @decide False h = false) ∧ (∀ b : Bool, (b && true) = b) ∧ (∀ b : Bool, (true && b) = b) ∧ (∀ b : Bool, (b && false) = false) ∧ (∀ b : Bool, (false && b) = false) ∧
  (∀ n : Nat, (n : Int).toNat = n) ∧ ((0 : Int).toNat = 0) ∧ (∀ n : Nat, n + 0 = n) ∧ (∀ n : Nat, 0 + n = n) ∧ (∀ p : Prop, (True ∧ p) = p) ∧ (∀ p : Prop, (p ∧ True) = p) ∧ (∀ p : Prop, (True ∨ p) = True) ∧ (∀ p : Prop, (p ∨ True) = True) ∧ (∀ p : Prop, (p ∨ False) = p) ∧ (∀ p : Prop, (False ∨ p) = p) := by
  refine ⟨?_, ?_, ?_, ?_, ?_, ?_, ?_, ?_, ?_, ?_, ?_, ?_, ?_, ?_, ?_, ?_, ?_, ?_, ?_, ?_, ?_, ?_, ?_⟩ <;> intros <;> simp

end Go.Vx
end
