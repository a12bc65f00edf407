/-
  Tree: the source of Parse: take, name. Conditions: none.
  Tree: what the reader of a text makes (plain). Conditions: none.
  Tree: Parse's reader: a node. Conditions: none. (Printed by wip/tree/genXp.py.)
  Tree: Parse's reader: a node that is none. Conditions: none. (Printed by wip/tree/genXw.py.)
  Tree: Parse's deferred closure; a body with a deferred call. Conditions: none.
  Tree: Parse, where it comes to a tree. Conditions: none.
-/
import Derived.Test.YtiioldgdgfdjeaaMH
import Derived.OneCell
import Derived.RecoverIn
import Derived.WideLaws

section
set_option linter.unusedVariables false
set_option linter.unusedSimpArgs false
set_option maxHeartbeats 4000000
set_option maxRecDepth 10000
namespace Go.Cp
open Go Go.Proofs Go.Vx

def takeB (s : ByteArray) (p : Nat) (c : Int) : Bool := decide (p < s.size) && decide (byteAt s p = c)
def takeN (s : ByteArray) (p : Nat) (c : Int) : Nat := if takeB s p c = true then p + 1 else p
theorem take_ok (s : ByteArray) (p : Nat) (c : Int) (hs : s.size ≤ 65536) (hp : p ≤ s.size) : OkM Try.prog E 77 [.bp 2001 0, .c (.sc (.int .u8 c))] [(2001, .cells [sv s, nv p])] (bv (takeB s p c)) [(2001, .cells [sv s, nv (takeN s p c)])] := by
  refine okM_of_vc (L := []) (ts := [4]) envOK mixed Try.func77 rfl (by kernel_rfl) rfl (by decide) (by kernel_rfl) rfl fun hl hlb => ?_
  simp only [Try.f77, lt_nat, int_beq, nums, rowsS, nodes, zv, nv, bv, sv, VZ, BEq.rfl, seval, -Int.reduceNatCast', kAgg, scD, List.all_cons, List.all_nil]
  refine guardB.mk (fun h => ?_) (fun h => ?_) <;> simp only [h, nums, rowsS, nodes, zv, nv, bv, sv, VZ, BEq.rfl, seval, -Int.reduceNatCast', kAgg, scD, List.all_cons, List.all_nil]
  · have h1 : p < s.size := by simpa using h
    refine ⟨⟨by omega, by omega⟩, ?_⟩
    refine guardB.mk (fun h2 => ?_) (fun h2 => ?_)
    · have h2' : decide (byteAt s p = c) = true := h2
      have e : takeB s p c = true := by rw [takeB, h, h2']; rfl
      simp only [h2, takeN, e, if_true, wrap_nat (k := p) (by omega), nums, rowsS, nodes, zv, nv, bv, sv, VZ, BEq.rfl, seval, -Int.reduceNatCast', kAgg, scD, List.all_cons, List.all_nil]
      refine Enter.mk [] [] [] ?_
      simp only [nums, rowsS, nodes, zv, nv, bv, sv, VZ, BEq.rfl, seval, -Int.reduceNatCast', kAgg, scD, List.all_cons, List.all_nil]
    · have h2' : decide (byteAt s p = c) = false := h2
      have e : takeB s p c = false := by rw [takeB, h, h2']; rfl
      simp only [h2, takeN, e, Bool.false_eq_true, if_false, nums, rowsS, nodes, zv, nv, bv, sv, VZ, BEq.rfl, seval, -Int.reduceNatCast', kAgg, scD, List.all_cons, List.all_nil]
      refine Enter.mk [] [] [] ?_
      simp only [nums, rowsS, nodes, zv, nv, bv, sv, VZ, BEq.rfl, seval, -Int.reduceNatCast', kAgg, scD, List.all_cons, List.all_nil]
  · have e : takeB s p c = false := by rw [takeB, h]; rfl
    simp only [takeN, e, Bool.false_eq_true, if_false, nums, rowsS, nodes, zv, nv, bv, sv, VZ, BEq.rfl, seval, -Int.reduceNatCast', kAgg, scD, List.all_cons, List.all_nil]
    refine Enter.mk [] [] [] ?_
    simp only [nums, rowsS, nodes, zv, nv, bv, sv, VZ, BEq.rfl, seval, -Int.reduceNatCast', kAgg, scD, List.all_cons, List.all_nil]

def nEnd (s : ByteArray) : Nat → Nat → Nat
  | 0, p => p
  | f + 1, p => if p < s.size ∧ letterB (byteAt s p) = true then nEnd s f (p + 1) else p
def nameEnd (s : ByteArray) (p : Nat) : Nat := nEnd s (s.size - p) p
theorem nameEnd_step {s : ByteArray} {p : Nat} (h : p < s.size) (hl : letterB (byteAt s p) = true) : nameEnd s p = nameEnd s (p + 1) := by
  rw [nameEnd, show s.size - p = (s.size - (p + 1)) + 1 by omega, nEnd, if_pos ⟨h, hl⟩]; rfl
theorem nameEnd_stop {s : ByteArray} {p : Nat} (h : ¬ (p < s.size ∧ letterB (byteAt s p) = true)) : nameEnd s p = p := by
  rw [nameEnd]
  cases s.size - p with
  | zero => rfl
  | succ f => rw [nEnd, if_neg h]
theorem nEnd_le (s : ByteArray) : ∀ f p, p ≤ s.size → p ≤ nEnd s f p ∧ nEnd s f p ≤ s.size
  | 0, p, h => ⟨Nat.le_refl _, h⟩
  | f + 1, p, h => by
    rw [nEnd]
    split
    · rename_i hh
      have := nEnd_le s f (p + 1) (by omega)
      omega
    · exact ⟨Nat.le_refl _, h⟩
theorem nameEnd_le {s : ByteArray} {p : Nat} (h : p ≤ s.size) : p ≤ nameEnd s p ∧ nameEnd s p ≤ s.size := nEnd_le s _ p h
theorem name_ok (s : ByteArray) (p : Nat) (hs : s.size ≤ 65536) (hp : p ≤ s.size) : OkM Try.prog E 78 [.bp 2001 0] [(2001, .cells [sv s, nv p])] (sv (s.extract p (nameEnd s p))) [(2001, .cells [sv s, nv (nameEnd s p)])] := by
  refine okM_of_vc (L := []) (ts := [2]) envOK mixed Try.func78 rfl (by kernel_rfl) rfl (by decide) (by kernel_rfl) rfl fun hl hlb => ?_
  simp only [Try.f78, nums, rowsS, nodes, zv, nv, bv, sv, VZ, BEq.rfl, seval, -Int.reduceNatCast', kAgg, scD, List.all_cons, List.all_nil]
  have hle := fun k (h : k ≤ s.size) => nameEnd_le h
  refine LoopVC.mk (Y := Nat) (fun k => p ≤ k ∧ k ≤ s.size ∧ nameEnd s k = nameEnd s p) (fun k => ⟨[(0, .bp 2001 0), (3, nv p)], [(2001, .cells [sv s, nv k])]⟩) (fun k => s.size - k) ⟨p, Enter.mk [] [] [] ?_, Nat.le_refl _, hp, rfl⟩ ?_
  · simp only [nums, rowsS, nodes, zv, nv, bv, sv, VZ, BEq.rfl, seval, -Int.reduceNatCast', kAgg, scD, List.all_cons, List.all_nil]
  rintro k ⟨h1, h2, h3⟩
  simp only [lt_nat, nums, rowsS, nodes, zv, nv, bv, sv, VZ, BEq.rfl, seval, -Int.reduceNatCast', kAgg, scD, List.all_cons, List.all_nil]
  refine guardB.mk (fun h => ?_) (fun h => ?_) <;> simp only [h, nums, rowsS, nodes, zv, nv, bv, sv, VZ, BEq.rfl, seval, -Int.reduceNatCast', kAgg, scD, List.all_cons, List.all_nil]
  · have hk : k < s.size := by simpa using h
    refine ⟨⟨by omega, by omega⟩, ?_⟩
    refine CallX.mk (letter_ok (byteAt s k)) rfl ?_
    simp only [nums, rowsS, nodes, zv, nv, bv, sv, VZ, BEq.rfl, seval, -Int.reduceNatCast', kAgg, scD, List.all_cons, List.all_nil]
    refine guardB.mk (fun h => ?_) (fun h => ?_)
    · have hst := nameEnd_step hk h
      simp only [h, wrap_nat (k := k) (by omega), nums, rowsS, nodes, zv, nv, bv, sv, VZ, BEq.rfl, seval, -Int.reduceNatCast', kAgg, scD, List.all_cons, List.all_nil]
      refine ⟨k + 1, Enter.mk [] [] [] ?_, ⟨by omega, by omega, by omega⟩, by show s.size - (k + 1) < s.size - k; omega⟩
      simp only [nums, rowsS, nodes, zv, nv, bv, sv, VZ, BEq.rfl, seval, -Int.reduceNatCast', kAgg, scD, List.all_cons, List.all_nil]
    · have hst := nameEnd_stop (s := s) (p := k) fun e => by rw [e.2] at h; cases h
      have hkk : nameEnd s p = k := by omega
      simp only [h, hkk, nums, rowsS, nodes, zv, nv, bv, sv, VZ, BEq.rfl, seval, -Int.reduceNatCast', kAgg, scD, List.all_cons, List.all_nil]
      refine ⟨⟨by omega, by omega, by omega⟩, Enter.mk [] [] [] ?_⟩
      simp only [nums, rowsS, nodes, zv, nv, bv, sv, VZ, BEq.rfl, seval, -Int.reduceNatCast', kAgg, scD, List.all_cons, List.all_nil]
  · have hk : ¬ k < s.size := by simpa using h
    have hst := nameEnd_stop (s := s) (p := k) fun e => hk e.1
    have hkk : nameEnd s p = k := by omega
    simp only [hkk, nums, rowsS, nodes, zv, nv, bv, sv, VZ, BEq.rfl, seval, -Int.reduceNatCast', kAgg, scD, List.all_cons, List.all_nil]
    refine ⟨⟨by omega, by omega, by omega⟩, Enter.mk [] [] [] ?_⟩
    simp only [nums, rowsS, nodes, zv, nv, bv, sv, VZ, BEq.rfl, seval, -Int.reduceNatCast', kAgg, scD, List.all_cons, List.all_nil]

end Go.Cp
end

section
set_option linter.unusedVariables false
set_option linter.unusedSimpArgs false
set_option maxHeartbeats 4000000
set_option maxRecDepth 10000
namespace Go.Cp
open Go Go.Proofs Go.Vx

def emptyS : ByteArray := ⟨#[]⟩
def setName (ns : List Node) (v : Nat) (x : ByteArray) : List Node := ns.set v ⟨(ns.getD v Node.zero).parent, x⟩
def nameHere (s : ByteArray) (v : Nat) (q : Nat × List Node) : Nat × List Node := (nameEnd s q.1, setName q.2 v (s.extract q.1 (nameEnd s q.1)))
/-- a node (false) or the rest of a list, behind its first node (true) -/
def rdG (s : ByteArray) : Nat → Bool → Nat → List Node → Int → Option (Nat × List Node)
  | 0, _, _, _, _ => none
  | f + 1, false, p, ns, par =>
    if ns.length = 63 then none
    else (if takeB s p 40 = true then (rdG s f false (p + 1) (ns ++ [⟨par, emptyS⟩]) ns.length).bind fun q => rdG s f true q.1 q.2 ns.length else some (p, ns ++ [⟨par, emptyS⟩])).map (nameHere s ns.length)
  | f + 1, true, p, ns, v =>
    if takeB s p 44 = true then (rdG s f false (p + 1) ns v).bind fun q => rdG s f true q.1 q.2 v
    else if takeB s p 41 = true then some (p + 1, ns) else none
theorem takeB_lt {s : ByteArray} {p : Nat} {c : Int} (h : takeB s p c = true) : p < s.size := by
  rw [takeB, Bool.and_eq_true] at h
  simpa using h.1
def Names (ns : List Node) : Prop := ∀ c ∈ ns, c.name.size ≤ 65536
theorem setName_len (ns : List Node) (v : Nat) (x : ByteArray) : (setName ns v x).length = ns.length := by rw [setName, List.length_set]
theorem extract_size (s : ByteArray) (a b : Nat) : (s.extract a b).size ≤ s.size := by
  rw [ByteArray.size_extract]; omega
structure RdOk (s : ByteArray) (l : Bool) (p : Nat) (ns : List Node) (R : Nat × List Node) : Prop where
  lo : p ≤ R.1
  hi : R.1 ≤ s.size
  len : ns.length + (if l = true then 0 else 1) ≤ R.2.length
  le63 : R.2.length ≤ 63
  nm : Names ns → Names R.2
theorem rdG_ok {s : ByteArray} (hs : s.size ≤ 65536) : ∀ f l p ns x R, rdG s f l p ns x = some R → p ≤ s.size → ns.length ≤ 63 → RdOk s l p ns R
  | 0, l, p, ns, x, R, h, _, _ => by simp [rdG] at h
  | f + 1, true, p, ns, x, R, h, hp, hn => by
    rw [rdG] at h
    split at h
    · rename_i ht
      have hlt := takeB_lt ht
      obtain ⟨q, h1, h2⟩ := Option.bind_eq_some_iff.1 h
      have g1 := rdG_ok hs f false (p + 1) ns x q h1 (by omega) hn
      have g2 := rdG_ok hs f true q.1 q.2 x R h2 g1.hi g1.le63
      have a1 := g1.len
      have a2 := g2.len
      have a3 := g1.lo
      have a4 := g2.lo
      simp only [if_true, Bool.false_eq_true, if_false] at a1 a2
      exact ⟨by omega, g2.hi, by rw [if_pos rfl]; omega, g2.le63, fun hh => g2.nm (g1.nm hh)⟩
    · split at h
      · rename_i ht
        have hlt := takeB_lt ht
        injection h with h
        subst h
        exact ⟨by simp, by simp; omega, by simp, hn, fun hh => hh⟩
      · cases h
  | f + 1, false, p, ns, x, R, h, hp, hn => by
    rw [rdG] at h
    split at h
    · cases h
    · rename_i h63
      obtain ⟨q, h1, rfl⟩ := Option.map_eq_some_iff.1 h
      have hfin : RdOk s true p (ns ++ [⟨x, emptyS⟩]) q → RdOk s false p ns (nameHere s ns.length q) := fun g => by
        have a1 := g.len
        have a2 := nameEnd_le g.hi
        have a3 := g.lo
        rw [List.length_append, if_pos rfl] at a1
        refine ⟨by simp only [nameHere]; omega, a2.2, ?_, ?_, fun hh c hc => ?_⟩
        · simp only [nameHere, setName_len, Bool.false_eq_true, if_false]
          simpa using a1
        · simp only [nameHere, setName_len]; exact g.le63
        · have hq : Names q.2 := g.nm fun c hc => (List.mem_append.1 hc).elim (hh c) fun hc => by
            rw [List.mem_singleton.1 hc]; exact Nat.zero_le _
          simp only [nameHere, setName] at hc
          rcases List.mem_or_eq_of_mem_set hc with hc | rfl
          · exact hq c hc
          · exact Nat.le_trans (extract_size _ _ _) hs
      split at h1
      · rename_i ht
        have hlt := takeB_lt ht
        obtain ⟨q1, h2, h3⟩ := Option.bind_eq_some_iff.1 h1
        have g1 := rdG_ok hs f false (p + 1) _ _ q1 h2 (by omega) (by simp; omega)
        have g2 := rdG_ok hs f true q1.1 q1.2 _ q h3 g1.hi g1.le63
        have a1 := g1.len
        have a2 := g2.len
        have a3 := g1.lo
        have a4 := g2.lo
        simp only [if_true, Bool.false_eq_true, if_false] at a1 a2
        exact hfin ⟨by omega, g2.hi, by rw [if_pos rfl]; omega, g2.le63, fun hh => g2.nm (g1.nm hh)⟩
      · injection h1 with h1
        subst h1
        exact hfin ⟨Nat.le_refl _, hp, by simp, by simp; omega, fun hh => hh⟩

end Go.Cp
end

section
set_option linter.unusedVariables false
set_option linter.unusedSimpArgs false
set_option maxHeartbeats 4000000
set_option maxRecDepth 10000
namespace Go.Cp
open Go Go.Proofs Go.Vx

def nBx (s : ByteArray) (p : Nat) (ns : List Node) (n : Nat) : List (Nat × Box) := [(2001, .cells [.bp 2002 0, .osl 2003 n]), (2002, .cells [sv s, nv p]), (2003, .arr 26 n (ns.map Node.enc))]
def nBx0 (s : ByteArray) (p : Nat) : List (Nat × Box) := [(2001, .cells [.bp 2002 0, .c (.sc (.slice none 0 0))]), (2002, .cells [sv s, nv p])]
theorem take_yes {s : ByteArray} {p : Nat} {c : Int} (h : takeB s p c = true) : takeN s p c = p + 1 := by rw [takeN, if_pos h]
theorem take_no {s : ByteArray} {p : Nat} {c : Int} (h : takeB s p c = false) : takeN s p c = p := by rw [takeN, h]; rfl
theorem set_name (ns : List Node) (v : Nat) (x : ByteArray) (h : v < ns.length) : (ns.map Node.enc).set v (List.take 1 ((ns.map Node.enc).getD v []) ++ D.sc (.string x) :: List.drop (1 + 1) ((ns.map Node.enc).getD v [])) = (setName ns v x).map Node.enc := by
  rw [getD_node ns v h, setName, List.map_set]; rfl
theorem row_two (ns : List Node) (v : Nat) (h : v < ns.length) : ((ns.map Node.enc).getD v []).length = 2 := by rw [getD_node ns v h]; rfl
theorem app_node (ns : List Node) (par : Int) : (ns.map Node.enc) ++ [[D.sc (.int .i64 par), D.sc (.string ⟨#[]⟩)]] = (ns ++ [(⟨par, emptyS⟩ : Node)]).map Node.enc := by rw [List.map_append]; rfl
theorem node_used (s : ByteArray) (hs : s.size ≤ 65536) : ∀ m f, f ≤ m → ∀ p ns par R, rdG s f false p ns par = some R → p ≤ s.size → ns.length ≤ 63 →
    OkM Try.prog E 54 [.bp 2001 0, zv par] (nBx s p ns 0) (.tp []) (nBx s R.1 R.2 1)
  | 0, f, hm, p, ns, par, R, hr, hp, hn => by
    cases f with
    | zero => simp [rdG] at hr
    | succ f => omega
  | m + 1, f, hm, p, ns, par, R, hr, hp, hn => by
    cases f with
    | zero => simp [rdG] at hr
    | succ f =>
    refine okM_of_vc (L := [(10, [(9, 1009), (1, 9), (2, 9), (3, 9)])]) (ts := []) envOK mixed Try.func54 rfl (by kernel_rfl) rfl (by decide) (by kernel_rfl) rfl fun hl hlb => ?_
    rw [rdG] at hr
    split at hr
    · cases hr
    rename_i h63
    obtain ⟨q, hq, rfl⟩ := Option.map_eq_some_iff.1 hr
    clear hr
    have e63 : ((ns.length : Int) == 63) = false := by rw [int_beq]; exact decide_eq_false (by omega)
    have hap := app_node ns par
    have hal : AllLen 2 [[D.sc (.int .i64 par), D.sc (.string ⟨#[]⟩)]] := fun y hy => by rw [List.mem_singleton.1 hy]; rfl
    simp only [Try.f54, nBx, e63, hap, nums, rowsS, nodes, zv, nv, bv, sv, VZ, BEq.rfl, seval, -Int.reduceNatCast', kAgg, scD, List.all_cons, List.all_nil]
    refine ⟨⟨by omega, hal⟩, ?_⟩
    refine CallMVC.mk [] [(2001, 2002)] (take_ok s p 40 hs hp) ?_ ?_
    · simp only [nums, rowsS, nodes, zv, nv, bv, sv, VZ, BEq.rfl, seval, -Int.reduceNatCast', kAgg, scD, List.all_cons, List.all_nil]
    simp only [nums, rowsS, nodes, zv, nv, bv, sv, VZ, BEq.rfl, seval, -Int.reduceNatCast', kAgg, scD, List.all_cons, List.all_nil]
    refine guardB.mk (fun h => ?_) (fun h => ?_)
    · rw [if_pos h] at hq
      obtain ⟨q1, hq1, hq2⟩ := Option.bind_eq_some_iff.1 hq
      clear hq
      have hlt := takeB_lt h
      have g1 := rdG_ok hs f false (p + 1) _ _ q1 hq1 (by omega) (by simp; omega)
      have gl := g1.len
      have ghi := g1.hi
      have g63 := g1.le63
      simp only [h, take_yes h, nums, rowsS, nodes, zv, nv, bv, sv, VZ, BEq.rfl, seval, -Int.reduceNatCast', kAgg, scD, List.all_cons, List.all_nil]
      refine CallMVC.mk [] [] (node_used s hs m f (by omega) (p + 1) (ns ++ [(⟨par, emptyS⟩ : Node)]) ((ns.length : Nat) : Int) q1 hq1 (by omega) (by simp; omega)) ?_ ?_
      · simp only [nBx, nums, rowsS, nodes, zv, nv, bv, sv, VZ, BEq.rfl, seval, -Int.reduceNatCast', kAgg, scD, List.all_cons, List.all_nil]
        try rfl
      simp only [nBx, nums, rowsS, nodes, zv, nv, bv, sv, VZ, BEq.rfl, seval, -Int.reduceNatCast', kAgg, scD, List.all_cons, List.all_nil]
      refine LoopVC.mk (Y := Nat × (Nat × List Node)) (fun y => y.1 ≤ f ∧ rdG s y.1 true y.2.1 y.2.2 ((ns.length : Nat) : Int) = some q ∧ y.2.1 ≤ s.size ∧ y.2.2.length ≤ 63 ∧ ns.length < y.2.2.length) (fun y => ⟨[(0, .bp 2001 0), (4, nv ns.length)], nBx s y.2.1 y.2.2 1⟩) (fun y => y.1) ⟨(f, q1), Enter.mk [] [] [] ?_, Nat.le_refl _, hq2, ghi, g63, by show ns.length < q1.2.length; simp at gl; omega⟩ ?_
      · simp only [nBx, nums, rowsS, nodes, zv, nv, bv, sv, VZ, BEq.rfl, seval, -Int.reduceNatCast', kAgg, scD, List.all_cons, List.all_nil]
        try rfl
      rintro ⟨f', p', ns'⟩ ⟨k0, k1, k2, k3, k4⟩
      have k0 : f' ≤ f := k0
      have k1 : rdG s f' true p' ns' ((ns.length : Nat) : Int) = some q := k1
      have k2 : p' ≤ s.size := k2
      have k3 : ns'.length ≤ 63 := k3
      have k4 : ns.length < ns'.length := k4
      simp only [nBx, nums, rowsS, nodes, zv, nv, bv, sv, VZ, BEq.rfl, seval, -Int.reduceNatCast', kAgg, scD, List.all_cons, List.all_nil]
      refine CallMVC.mk [] [(2001, 2002)] (take_ok s p' 44 hs k2) ?_ ?_
      · simp only [nums, rowsS, nodes, zv, nv, bv, sv, VZ, BEq.rfl, seval, -Int.reduceNatCast', kAgg, scD, List.all_cons, List.all_nil]
      simp only [nums, rowsS, nodes, zv, nv, bv, sv, VZ, BEq.rfl, seval, -Int.reduceNatCast', kAgg, scD, List.all_cons, List.all_nil]
      cases f' with
      | zero => simp [rdG] at k1
      | succ f' =>
      rw [rdG] at k1
      refine guardB.mk (fun h2 => ?_) (fun h2 => ?_)
      · rw [if_pos h2] at k1
        obtain ⟨q2, hq3, hq4⟩ := Option.bind_eq_some_iff.1 k1
        have hlt2 := takeB_lt h2
        have g2 := rdG_ok hs f' false (p' + 1) _ _ q2 hq3 (by omega) k3
        have g2l := g2.len
        have g2h := g2.hi
        have g263 := g2.le63
        simp only [h2, take_yes h2, nums, rowsS, nodes, zv, nv, bv, sv, VZ, BEq.rfl, seval, -Int.reduceNatCast', kAgg, scD, List.all_cons, List.all_nil]
        refine CallMVC.mk [] [] (node_used s hs m f' (by omega) (p' + 1) ns' ((ns.length : Nat) : Int) q2 hq3 (by omega) k3) ?_ ?_
        · simp only [nBx, nums, rowsS, nodes, zv, nv, bv, sv, VZ, BEq.rfl, seval, -Int.reduceNatCast', kAgg, scD, List.all_cons, List.all_nil]
          try rfl
        simp only [nBx, nums, rowsS, nodes, zv, nv, bv, sv, VZ, BEq.rfl, seval, -Int.reduceNatCast', kAgg, scD, List.all_cons, List.all_nil]
        refine ⟨(f', q2), Enter.mk [] [] [] ?_, ⟨by show f' ≤ f; omega, hq4, g2h, g263, by show ns.length < q2.2.length; simp at g2l; omega⟩, by show f' < f' + 1; omega⟩
        simp only [nBx, nums, rowsS, nodes, zv, nv, bv, sv, VZ, BEq.rfl, seval, -Int.reduceNatCast', kAgg, scD, List.all_cons, List.all_nil]
        try rfl
      · rw [if_neg (by rw [h2]; decide)] at k1
        cases h3 : takeB s p' 41 with
        | false =>
          rw [h3] at k1
          cases k1
        | true =>
          rw [if_pos h3] at k1
          injection k1 with k1
          have hlt3 := takeB_lt h3
          have hne := nameEnd_le (s := s) (p := p' + 1) (by omega)
          subst k1
          simp only [h2, take_no h2, nums, rowsS, nodes, zv, nv, bv, sv, VZ, BEq.rfl, seval, -Int.reduceNatCast', kAgg, scD, List.all_cons, List.all_nil]
          refine CallMVC.mk [] [(2001, 2002)] (take_ok s p' 41 hs k2) ?_ ?_
          · simp only [nums, rowsS, nodes, zv, nv, bv, sv, VZ, BEq.rfl, seval, -Int.reduceNatCast', kAgg, scD, List.all_cons, List.all_nil]
          simp only [h3, take_yes h3, nums, rowsS, nodes, zv, nv, bv, sv, VZ, BEq.rfl, seval, -Int.reduceNatCast', kAgg, scD, List.all_cons, List.all_nil]
          refine MutL.mk [(2001, 2002)] (name_ok s (p' + 1) hs (by omega)) ?_ ?_
          · simp only [nums, rowsS, nodes, zv, nv, bv, sv, VZ, BEq.rfl, seval, -Int.reduceNatCast', kAgg, scD, List.all_cons, List.all_nil]
          simp only [set_name ns' ns.length _ k4, row_two ns' ns.length k4, setName_len, nums, rowsS, nodes, zv, nv, bv, sv, VZ, BEq.rfl, seval, -Int.reduceNatCast', kAgg, scD, List.all_cons, List.all_nil]
          refine ⟨Int.natCast_nonneg _, k4, k4, Enter.mk [] [] [] ?_⟩
          simp only [nameHere, nBx, nums, rowsS, nodes, zv, nv, bv, sv, VZ, BEq.rfl, seval, -Int.reduceNatCast', kAgg, scD, List.all_cons, List.all_nil]
    · rw [if_neg (by rw [h]; decide)] at hq
      injection hq with hq
      subst hq
      simp only [h, take_no h, nums, rowsS, nodes, zv, nv, bv, sv, VZ, BEq.rfl, seval, -Int.reduceNatCast', kAgg, scD, List.all_cons, List.all_nil]
      have k4 : ns.length < (ns ++ [(⟨par, emptyS⟩ : Node)]).length := by simp
      refine MutL.mk [(2001, 2002)] (name_ok s p hs hp) ?_ ?_
      · simp only [nums, rowsS, nodes, zv, nv, bv, sv, VZ, BEq.rfl, seval, -Int.reduceNatCast', kAgg, scD, List.all_cons, List.all_nil]
      simp only [set_name (ns ++ [(⟨par, emptyS⟩ : Node)]) ns.length _ k4, row_two (ns ++ [(⟨par, emptyS⟩ : Node)]) ns.length k4, setName_len, nums, rowsS, nodes, zv, nv, bv, sv, VZ, BEq.rfl, seval, -Int.reduceNatCast', kAgg, scD, List.all_cons, List.all_nil]
      refine ⟨Int.natCast_nonneg _, k4, k4, Enter.mk [] [] [] ?_⟩
      simp only [nameHere, nBx, nums, rowsS, nodes, zv, nv, bv, sv, VZ, BEq.rfl, seval, -Int.reduceNatCast', kAgg, scD, List.all_cons, List.all_nil]

theorem node_fresh (s : ByteArray) (hs : s.size ≤ 65536) (f p : Nat) (ns : List Node) (par : Int) (R : Nat × List Node) (hr : rdG s (f + 1) false p ns par = some R) (hp : p ≤ s.size) (hn : ns.length ≤ 63) (h0 : ns = []) :
    OkM Try.prog E 54 [.bp 2001 0, zv par] (nBx0 s p) (.tp []) (nBx s R.1 R.2 0) := by
    refine okM_of_vc (L := [(10, [(9, 1009), (1, 9), (2, 9), (3, 9)])]) (ts := []) envOK mixed Try.func54 rfl (by kernel_rfl) rfl (by decide) (by kernel_rfl) rfl fun hl hlb => ?_
    rw [rdG] at hr
    split at hr
    · cases hr
    rename_i h63
    obtain ⟨q, hq, rfl⟩ := Option.map_eq_some_iff.1 hr
    clear hr
    have e63 : ((ns.length : Int) == 63) = false := by rw [int_beq]; exact decide_eq_false (by omega)
    have hap := app_node ns par
    have hal : AllLen 2 [[D.sc (.int .i64 par), D.sc (.string ⟨#[]⟩)]] := fun y hy => by rw [List.mem_singleton.1 hy]; rfl
    have hv0 : ns.length = 0 := by rw [h0]; rfl
    rw [h0] at hap
    obtain ⟨N1, hN1⟩ : ∃ N1 : List Node, [] ++ [(⟨par, emptyS⟩ : Node)] = N1 := ⟨_, rfl⟩
    have hap : [[D.sc (.int .i64 par), D.sc (.string ⟨#[]⟩)]] = N1.map Node.enc := by rw [← hN1]; exact hap
    have hl1 : N1.length = 1 := by rw [← hN1]; rfl
    rw [hv0] at hq ⊢
    rw [h0, hN1] at hq
    have hm0 : nv 0 = zv 0 := rfl
    simp only [Try.f54, nBx0, nums, rowsS, nodes, zv, nv, bv, sv, VZ, BEq.rfl, seval, -Int.reduceNatCast', kAgg, scD, List.all_cons, List.all_nil]
    refine ⟨hal, ?_⟩
    simp only [hap]
    refine CallMVC.mk [] [(2001, 2002)] (take_ok s p 40 hs hp) ?_ ?_
    · simp only [nums, rowsS, nodes, zv, nv, bv, sv, VZ, BEq.rfl, seval, -Int.reduceNatCast', kAgg, scD, List.all_cons, List.all_nil]
    simp only [nums, rowsS, nodes, zv, nv, bv, sv, VZ, BEq.rfl, seval, -Int.reduceNatCast', kAgg, scD, List.all_cons, List.all_nil]
    refine guardB.mk (fun h => ?_) (fun h => ?_)
    · rw [if_pos h] at hq
      obtain ⟨q1, hq1, hq2⟩ := Option.bind_eq_some_iff.1 hq
      clear hq
      have hlt := takeB_lt h
      have g1 := rdG_ok hs f false (p + 1) _ _ q1 hq1 (by omega) (by omega)
      have gl := g1.len
      have ghi := g1.hi
      have g63 := g1.le63
      simp only [h, take_yes h, nums, rowsS, nodes, zv, nv, bv, sv, VZ, BEq.rfl, seval, -Int.reduceNatCast', kAgg, scD, List.all_cons, List.all_nil]
      refine CallMVC.mk [] [(2003, 22)] (node_used s hs f f (Nat.le_refl _) (p + 1) N1 ((0 : Nat) : Int) q1 hq1 (by omega) (by omega)) ?_ ?_
      · simp only [nBx, nums, rowsS, nodes, zv, nv, bv, sv, VZ, BEq.rfl, seval, -Int.reduceNatCast', kAgg, scD, List.all_cons, List.all_nil]
        try rfl
      simp only [nBx, nums, rowsS, nodes, zv, nv, bv, sv, VZ, BEq.rfl, seval, -Int.reduceNatCast', kAgg, scD, List.all_cons, List.all_nil]
      refine LoopVC.mk (Y := Nat × (Nat × List Node)) (fun y => y.1 ≤ f ∧ rdG s y.1 true y.2.1 y.2.2 ((0 : Nat) : Int) = some q ∧ y.2.1 ≤ s.size ∧ y.2.2.length ≤ 63 ∧ 0 < y.2.2.length) (fun y => ⟨[(0, .bp 2001 0), (4, nv 0)], nBx s y.2.1 y.2.2 0⟩) (fun y => y.1) ⟨(f, q1), Enter.mk [] [] [(2003, 22)] ?_, Nat.le_refl _, hq2, ghi, g63, by show 0 < q1.2.length; simp at gl; omega⟩ ?_
      · simp only [nBx, nums, rowsS, nodes, zv, nv, bv, sv, VZ, BEq.rfl, seval, -Int.reduceNatCast', kAgg, scD, List.all_cons, List.all_nil]
        try rfl
      rintro ⟨f', p', ns'⟩ ⟨k0, k1, k2, k3, k4⟩
      have k0 : f' ≤ f := k0
      have k1 : rdG s f' true p' ns' ((0 : Nat) : Int) = some q := k1
      have k2 : p' ≤ s.size := k2
      have k3 : ns'.length ≤ 63 := k3
      have k4 : 0 < ns'.length := k4
      simp only [nBx, nums, rowsS, nodes, zv, nv, bv, sv, VZ, BEq.rfl, seval, -Int.reduceNatCast', kAgg, scD, List.all_cons, List.all_nil]
      refine CallMVC.mk [] [(2001, 2002)] (take_ok s p' 44 hs k2) ?_ ?_
      · simp only [nums, rowsS, nodes, zv, nv, bv, sv, VZ, BEq.rfl, seval, -Int.reduceNatCast', kAgg, scD, List.all_cons, List.all_nil]
      simp only [nums, rowsS, nodes, zv, nv, bv, sv, VZ, BEq.rfl, seval, -Int.reduceNatCast', kAgg, scD, List.all_cons, List.all_nil]
      cases f' with
      | zero => simp [rdG] at k1
      | succ f' =>
      rw [rdG] at k1
      refine guardB.mk (fun h2 => ?_) (fun h2 => ?_)
      · rw [if_pos h2] at k1
        obtain ⟨q2, hq3, hq4⟩ := Option.bind_eq_some_iff.1 k1
        have hlt2 := takeB_lt h2
        have g2 := rdG_ok hs f' false (p' + 1) _ _ q2 hq3 (by omega) k3
        have g2l := g2.len
        have g2h := g2.hi
        have g263 := g2.le63
        simp only [h2, take_yes h2, nums, rowsS, nodes, zv, nv, bv, sv, VZ, BEq.rfl, seval, -Int.reduceNatCast', kAgg, scD, List.all_cons, List.all_nil]
        refine CallMVC.mk [] [] (node_used s hs f f' (by omega) (p' + 1) ns' ((0 : Nat) : Int) q2 hq3 (by omega) k3) ?_ ?_
        · simp only [nBx, nums, rowsS, nodes, zv, nv, bv, sv, VZ, BEq.rfl, seval, -Int.reduceNatCast', kAgg, scD, List.all_cons, List.all_nil]
          try rfl
        simp only [nBx, nums, rowsS, nodes, zv, nv, bv, sv, VZ, BEq.rfl, seval, -Int.reduceNatCast', kAgg, scD, List.all_cons, List.all_nil]
        refine ⟨(f', q2), Enter.mk [] [] [] ?_, ⟨by show f' ≤ f; omega, hq4, g2h, g263, by show 0 < q2.2.length; simp at g2l; omega⟩, by show f' < f' + 1; omega⟩
        simp only [nBx, nums, rowsS, nodes, zv, nv, bv, sv, VZ, BEq.rfl, seval, -Int.reduceNatCast', kAgg, scD, List.all_cons, List.all_nil]
        try rfl
      · rw [if_neg (by rw [h2]; decide)] at k1
        cases h3 : takeB s p' 41 with
        | false =>
          rw [h3] at k1
          cases k1
        | true =>
          rw [if_pos h3] at k1
          injection k1 with k1
          have hlt3 := takeB_lt h3
          have hne := nameEnd_le (s := s) (p := p' + 1) (by omega)
          subst k1
          simp only [h2, take_no h2, nums, rowsS, nodes, zv, nv, bv, sv, VZ, BEq.rfl, seval, -Int.reduceNatCast', kAgg, scD, List.all_cons, List.all_nil]
          refine CallMVC.mk [] [(2001, 2002)] (take_ok s p' 41 hs k2) ?_ ?_
          · simp only [nums, rowsS, nodes, zv, nv, bv, sv, VZ, BEq.rfl, seval, -Int.reduceNatCast', kAgg, scD, List.all_cons, List.all_nil]
          simp only [h3, take_yes h3, nums, rowsS, nodes, zv, nv, bv, sv, VZ, BEq.rfl, seval, -Int.reduceNatCast', kAgg, scD, List.all_cons, List.all_nil]
          refine MutL.mk [(2001, 2002)] (name_ok s (p' + 1) hs (by omega)) ?_ ?_
          · simp only [nums, rowsS, nodes, zv, nv, bv, sv, VZ, BEq.rfl, seval, -Int.reduceNatCast', kAgg, scD, List.all_cons, List.all_nil]
          simp only [set_name ns' 0 _ k4, row_two ns' 0 k4, setName_len, nums, rowsS, nodes, zv, nv, bv, sv, VZ, BEq.rfl, seval, -Int.reduceNatCast', kAgg, scD, List.all_cons, List.all_nil]
          refine ⟨Int.natCast_nonneg _, k4, k4, Enter.mk [] [] [] ?_⟩
          simp only [nameHere, nBx, nums, rowsS, nodes, zv, nv, bv, sv, VZ, BEq.rfl, seval, -Int.reduceNatCast', kAgg, scD, List.all_cons, List.all_nil]
    · rw [if_neg (by rw [h]; decide)] at hq
      injection hq with hq
      subst hq
      simp only [h, take_no h, nums, rowsS, nodes, zv, nv, bv, sv, VZ, BEq.rfl, seval, -Int.reduceNatCast', kAgg, scD, List.all_cons, List.all_nil]
      have k4 : 0 < N1.length := by omega
      refine MutL.mk [(2001, 2002)] (name_ok s p hs hp) ?_ ?_
      · simp only [nums, rowsS, nodes, zv, nv, bv, sv, VZ, BEq.rfl, seval, -Int.reduceNatCast', kAgg, scD, List.all_cons, List.all_nil]
      simp only [set_name N1 0 _ k4, row_two N1 0 k4, setName_len, nums, rowsS, nodes, zv, nv, bv, sv, VZ, BEq.rfl, seval, -Int.reduceNatCast', kAgg, scD, List.all_cons, List.all_nil]
      refine ⟨k4, k4, Enter.mk [] [] [(2003, 22)] ?_⟩
      simp only [nameHere, nBx, nums, rowsS, nodes, zv, nv, bv, sv, VZ, BEq.rfl, seval, -Int.reduceNatCast', kAgg, scD, List.all_cons, List.all_nil]

end Go.Cp
end

section
set_option linter.unusedVariables false
set_option linter.unusedSimpArgs false
set_option maxHeartbeats 4000000
set_option maxRecDepth 10000
namespace Go.Cp
open Go Go.Proofs Go.Vx

def wrongC : List PanicEntry := [{ v := .iface 82 (.agg #[]), recovered := false }]
theorem bad_used (s : ByteArray) (hs : s.size ≤ 65536) : ∀ m f, f ≤ m → ∀ p ns par, rdG s f false p ns par = none → 2 * (s.size - p) + 1 < f → p ≤ s.size → ns.length ≤ 63 →
    OkP Try.prog E 54 [.bp 2001 0, zv par] (nBx s p ns 0) wrongC
  | 0, f, hm, p, ns, par, hr, hf, hp, hn => by omega
  | m + 1, f, hm, p, ns, par, hr, hf, hp, hn => by
    cases f with
    | zero => omega
    | succ f =>
    refine okP_of_vc (L := [(2, [(0, 0)]), (5, [(2, 2)]), (7, [(2, 2)]), (9, [(0, 0)]), (10, [(9, 1009), (1, 9), (2, 9), (3, 9)])]) envOK mixed Try.func54 rfl (by kernel_rfl) (by kernel_rfl) rfl fun hl hlb => ?_
    have hap := app_node ns par
    have hal : AllLen 2 [[D.sc (.int .i64 par), D.sc (.string ⟨#[]⟩)]] := fun y hy => by rw [List.mem_singleton.1 hy]; rfl
    by_cases h63 : ns.length = 63
    · have e63 : ((ns.length : Int) == 63) = true := by rw [int_beq]; exact decide_eq_true (by omega)
      simp only [Try.f54, nBx, e63, nums, rowsS, nodes, zv, nv, bv, sv, VZ, BEq.rfl, seval, -Int.reduceNatCast', kAgg, scD, List.all_cons, List.all_nil]
      refine PanVC.wrong 82 12 13 (by kernel_rfl) ?_
      try rfl
    rw [rdG, if_neg h63] at hr
    have hq := Option.map_eq_none_iff.1 hr
    clear hr
    have e63 : ((ns.length : Int) == 63) = false := by rw [int_beq]; exact decide_eq_false (by omega)
    simp only [Try.f54, nBx, e63, hap, nums, rowsS, nodes, zv, nv, bv, sv, VZ, BEq.rfl, seval, -Int.reduceNatCast', kAgg, scD, List.all_cons, List.all_nil]
    refine ⟨⟨by omega, hal⟩, ?_⟩
    refine CallMVC.mk [] [(2001, 2002)] (take_ok s p 40 hs hp) ?_ ?_
    · simp only [nums, rowsS, nodes, zv, nv, bv, sv, VZ, BEq.rfl, seval, -Int.reduceNatCast', kAgg, scD, List.all_cons, List.all_nil]
    simp only [nums, rowsS, nodes, zv, nv, bv, sv, VZ, BEq.rfl, seval, -Int.reduceNatCast', kAgg, scD, List.all_cons, List.all_nil]
    refine guardB.mk (fun h => ?_) (fun h => ?_)
    · rw [if_pos h] at hq
      have hlt := takeB_lt h
      simp only [h, take_yes h, nums, rowsS, nodes, zv, nv, bv, sv, VZ, BEq.rfl, seval, -Int.reduceNatCast', kAgg, scD, List.all_cons, List.all_nil]
      cases hq1 : rdG s f false (p + 1) (ns ++ [(⟨par, emptyS⟩ : Node)]) ((ns.length : Nat) : Int) with
      | none =>
        refine PanVC.pan rfl ?_
        simp only [nums, rowsS, nodes, zv, nv, bv, sv, VZ, BEq.rfl, seval, -Int.reduceNatCast', kAgg, scD, List.all_cons, List.all_nil]
        refine PanCall.mk [] [] [] [] (bad_used s hs m f (by omega) (p + 1) (ns ++ [(⟨par, emptyS⟩ : Node)]) ((ns.length : Nat) : Int) hq1 (by omega) (by omega) (by simp; omega)) ?_ ?_
        · simp only [nBx, nums, rowsS, nodes, zv, nv, bv, sv, VZ, BEq.rfl, seval, -Int.reduceNatCast', kAgg, scD, List.all_cons, List.all_nil]
          try rfl
        · rfl
      | some q1 =>
      rw [hq1] at hq
      have hq2 : rdG s f true q1.1 q1.2 ((ns.length : Nat) : Int) = none := hq
      have g1 := rdG_ok hs f false (p + 1) _ _ q1 hq1 (by omega) (by simp; omega)
      have gl := g1.len
      have glo := g1.lo
      have ghi := g1.hi
      have g63 := g1.le63
      refine PanVC.go ?_
      simp only [nums, rowsS, nodes, zv, nv, bv, sv, VZ, BEq.rfl, seval, -Int.reduceNatCast', kAgg, scD, List.all_cons, List.all_nil]
      refine CallMVC.mk [] [] (node_used s hs m f (by omega) (p + 1) (ns ++ [(⟨par, emptyS⟩ : Node)]) ((ns.length : Nat) : Int) q1 hq1 (by omega) (by simp; omega)) ?_ ?_
      · simp only [nBx, nums, rowsS, nodes, zv, nv, bv, sv, VZ, BEq.rfl, seval, -Int.reduceNatCast', kAgg, scD, List.all_cons, List.all_nil]
        try rfl
      simp only [nBx, nums, rowsS, nodes, zv, nv, bv, sv, VZ, BEq.rfl, seval, -Int.reduceNatCast', kAgg, scD, List.all_cons, List.all_nil]
      refine LoopVC.mk (Y := Nat × (Nat × List Node)) (fun y => y.1 ≤ f ∧ rdG s y.1 true y.2.1 y.2.2 ((ns.length : Nat) : Int) = none ∧ 2 * (s.size - y.2.1) + 1 < y.1 ∧ y.2.1 ≤ s.size ∧ y.2.2.length ≤ 63 ∧ ns.length < y.2.2.length) (fun y => ⟨[(0, .bp 2001 0), (4, nv ns.length)], nBx s y.2.1 y.2.2 1⟩) (fun y => y.1) ⟨(f, q1), Enter.mk [] [] [] ?_, Nat.le_refl _, hq2, by show 2 * (s.size - q1.1) + 1 < f; omega, ghi, g63, by show ns.length < q1.2.length; simp at gl; omega⟩ ?_
      · simp only [nBx, nums, rowsS, nodes, zv, nv, bv, sv, VZ, BEq.rfl, seval, -Int.reduceNatCast', kAgg, scD, List.all_cons, List.all_nil]
        try rfl
      rintro ⟨f', p', ns'⟩ ⟨k0, k1, k5, k2, k3, k4⟩
      have k0 : f' ≤ f := k0
      have k1 : rdG s f' true p' ns' ((ns.length : Nat) : Int) = none := k1
      have k5 : 2 * (s.size - p') + 1 < f' := k5
      have k2 : p' ≤ s.size := k2
      have k3 : ns'.length ≤ 63 := k3
      have k4 : ns.length < ns'.length := k4
      simp only [nBx, nums, rowsS, nodes, zv, nv, bv, sv, VZ, BEq.rfl, seval, -Int.reduceNatCast', kAgg, scD, List.all_cons, List.all_nil]
      refine CallMVC.mk [] [(2001, 2002)] (take_ok s p' 44 hs k2) ?_ ?_
      · simp only [nums, rowsS, nodes, zv, nv, bv, sv, VZ, BEq.rfl, seval, -Int.reduceNatCast', kAgg, scD, List.all_cons, List.all_nil]
      simp only [nums, rowsS, nodes, zv, nv, bv, sv, VZ, BEq.rfl, seval, -Int.reduceNatCast', kAgg, scD, List.all_cons, List.all_nil]
      cases f' with
      | zero => omega
      | succ f' =>
      rw [rdG] at k1
      refine guardB.mk (fun h2 => ?_) (fun h2 => ?_)
      · rw [if_pos h2] at k1
        have hlt2 := takeB_lt h2
        simp only [h2, take_yes h2, nums, rowsS, nodes, zv, nv, bv, sv, VZ, BEq.rfl, seval, -Int.reduceNatCast', kAgg, scD, List.all_cons, List.all_nil]
        cases hq3 : rdG s f' false (p' + 1) ns' ((ns.length : Nat) : Int) with
        | none =>
          refine PanVC.pan rfl ?_
          simp only [nums, rowsS, nodes, zv, nv, bv, sv, VZ, BEq.rfl, seval, -Int.reduceNatCast', kAgg, scD, List.all_cons, List.all_nil]
          refine PanCall.mk [] [] [] [] (bad_used s hs m f' (by omega) (p' + 1) ns' ((ns.length : Nat) : Int) hq3 (by omega) (by omega) k3) ?_ ?_
          · simp only [nBx, nums, rowsS, nodes, zv, nv, bv, sv, VZ, BEq.rfl, seval, -Int.reduceNatCast', kAgg, scD, List.all_cons, List.all_nil]
            try rfl
          · rfl
        | some q2 =>
        rw [hq3] at k1
        have hq4 : rdG s f' true q2.1 q2.2 ((ns.length : Nat) : Int) = none := k1
        have g2 := rdG_ok hs f' false (p' + 1) _ _ q2 hq3 (by omega) k3
        have g2l := g2.len
        have g2o := g2.lo
        have g2h := g2.hi
        have g263 := g2.le63
        refine PanVC.go ?_
        simp only [nums, rowsS, nodes, zv, nv, bv, sv, VZ, BEq.rfl, seval, -Int.reduceNatCast', kAgg, scD, List.all_cons, List.all_nil]
        refine CallMVC.mk [] [] (node_used s hs m f' (by omega) (p' + 1) ns' ((ns.length : Nat) : Int) q2 hq3 (by omega) k3) ?_ ?_
        · simp only [nBx, nums, rowsS, nodes, zv, nv, bv, sv, VZ, BEq.rfl, seval, -Int.reduceNatCast', kAgg, scD, List.all_cons, List.all_nil]
          try rfl
        simp only [nBx, nums, rowsS, nodes, zv, nv, bv, sv, VZ, BEq.rfl, seval, -Int.reduceNatCast', kAgg, scD, List.all_cons, List.all_nil]
        refine ⟨(f', q2), Enter.mk [] [] [] ?_, ⟨by show f' ≤ f; omega, hq4, by show 2 * (s.size - q2.1) + 1 < f'; omega, g2h, g263, by show ns.length < q2.2.length; simp at g2l; omega⟩, by show f' < f' + 1; omega⟩
        simp only [nBx, nums, rowsS, nodes, zv, nv, bv, sv, VZ, BEq.rfl, seval, -Int.reduceNatCast', kAgg, scD, List.all_cons, List.all_nil]
        try rfl
      · rw [if_neg (by rw [h2]; decide)] at k1
        cases h3 : takeB s p' 41 with
        | true =>
          rw [h3] at k1
          cases k1
        | false =>
          simp only [h2, take_no h2, nums, rowsS, nodes, zv, nv, bv, sv, VZ, BEq.rfl, seval, -Int.reduceNatCast', kAgg, scD, List.all_cons, List.all_nil]
          refine CallMVC.mk [] [(2001, 2002)] (take_ok s p' 41 hs k2) ?_ ?_
          · simp only [nums, rowsS, nodes, zv, nv, bv, sv, VZ, BEq.rfl, seval, -Int.reduceNatCast', kAgg, scD, List.all_cons, List.all_nil]
          simp only [h3, take_no h3, nums, rowsS, nodes, zv, nv, bv, sv, VZ, BEq.rfl, seval, -Int.reduceNatCast', kAgg, scD, List.all_cons, List.all_nil]
          refine PanVC.wrong 82 47 48 (by kernel_rfl) ?_
          try rfl
    · rw [if_neg (by rw [h]; decide)] at hq
      cases hq

theorem bad_fresh (s : ByteArray) (hs : s.size ≤ 65536) (f p : Nat) (ns : List Node) (par : Int) (hr : rdG s (f + 1) false p ns par = none) (hf : 2 * (s.size - p) + 1 < f + 1) (hp : p ≤ s.size) (hn : ns.length ≤ 63) (h0 : ns = []) :
    OkP Try.prog E 54 [.bp 2001 0, zv par] (nBx0 s p) wrongC := by
    refine okP_of_vc (L := [(2, [(0, 0)]), (5, [(2, 2)]), (7, [(2, 2)]), (9, [(0, 0)]), (10, [(9, 1009), (1, 9), (2, 9), (3, 9)])]) envOK mixed Try.func54 rfl (by kernel_rfl) (by kernel_rfl) rfl fun hl hlb => ?_
    have hap := app_node ns par
    have hal : AllLen 2 [[D.sc (.int .i64 par), D.sc (.string ⟨#[]⟩)]] := fun y hy => by rw [List.mem_singleton.1 hy]; rfl
    rw [rdG, if_neg (by rw [h0]; decide)] at hr
    have hq := Option.map_eq_none_iff.1 hr
    clear hr
    have hv0 : ns.length = 0 := by rw [h0]; rfl
    rw [h0] at hap
    obtain ⟨N1, hN1⟩ : ∃ N1 : List Node, [] ++ [(⟨par, emptyS⟩ : Node)] = N1 := ⟨_, rfl⟩
    have hap : [[D.sc (.int .i64 par), D.sc (.string ⟨#[]⟩)]] = N1.map Node.enc := by rw [← hN1]; exact hap
    have hl1 : N1.length = 1 := by rw [← hN1]; rfl
    rw [hv0] at hq
    rw [h0, hN1] at hq
    simp only [Try.f54, nBx0, nums, rowsS, nodes, zv, nv, bv, sv, VZ, BEq.rfl, seval, -Int.reduceNatCast', kAgg, scD, List.all_cons, List.all_nil]
    refine ⟨hal, ?_⟩
    simp only [hap]
    refine CallMVC.mk [] [(2001, 2002)] (take_ok s p 40 hs hp) ?_ ?_
    · simp only [nums, rowsS, nodes, zv, nv, bv, sv, VZ, BEq.rfl, seval, -Int.reduceNatCast', kAgg, scD, List.all_cons, List.all_nil]
    simp only [nums, rowsS, nodes, zv, nv, bv, sv, VZ, BEq.rfl, seval, -Int.reduceNatCast', kAgg, scD, List.all_cons, List.all_nil]
    refine guardB.mk (fun h => ?_) (fun h => ?_)
    · rw [if_pos h] at hq
      have hlt := takeB_lt h
      simp only [h, take_yes h, nums, rowsS, nodes, zv, nv, bv, sv, VZ, BEq.rfl, seval, -Int.reduceNatCast', kAgg, scD, List.all_cons, List.all_nil]
      cases hq1 : rdG s f false (p + 1) N1 ((0 : Nat) : Int) with
      | none =>
        refine PanVC.pan rfl ?_
        simp only [nums, rowsS, nodes, zv, nv, bv, sv, VZ, BEq.rfl, seval, -Int.reduceNatCast', kAgg, scD, List.all_cons, List.all_nil]
        refine PanCall.mk [] [(2003, 22)] [] [] (bad_used s hs f f (Nat.le_refl _) (p + 1) N1 ((0 : Nat) : Int) hq1 (by omega) (by omega) (by omega)) ?_ ?_
        · simp only [nBx, nums, rowsS, nodes, zv, nv, bv, sv, VZ, BEq.rfl, seval, -Int.reduceNatCast', kAgg, scD, List.all_cons, List.all_nil]
          try rfl
        · rfl
      | some q1 =>
      rw [hq1] at hq
      have hq2 : rdG s f true q1.1 q1.2 ((0 : Nat) : Int) = none := hq
      have g1 := rdG_ok hs f false (p + 1) _ _ q1 hq1 (by omega) (by omega)
      have gl := g1.len
      have glo := g1.lo
      have ghi := g1.hi
      have g63 := g1.le63
      refine PanVC.go ?_
      simp only [nums, rowsS, nodes, zv, nv, bv, sv, VZ, BEq.rfl, seval, -Int.reduceNatCast', kAgg, scD, List.all_cons, List.all_nil]
      refine CallMVC.mk [] [(2003, 22)] (node_used s hs f f (Nat.le_refl _) (p + 1) N1 ((0 : Nat) : Int) q1 hq1 (by omega) (by omega)) ?_ ?_
      · simp only [nBx, nums, rowsS, nodes, zv, nv, bv, sv, VZ, BEq.rfl, seval, -Int.reduceNatCast', kAgg, scD, List.all_cons, List.all_nil]
        try rfl
      simp only [nBx, nums, rowsS, nodes, zv, nv, bv, sv, VZ, BEq.rfl, seval, -Int.reduceNatCast', kAgg, scD, List.all_cons, List.all_nil]
      refine LoopVC.mk (Y := Nat × (Nat × List Node)) (fun y => y.1 ≤ f ∧ rdG s y.1 true y.2.1 y.2.2 ((0 : Nat) : Int) = none ∧ 2 * (s.size - y.2.1) + 1 < y.1 ∧ y.2.1 ≤ s.size ∧ y.2.2.length ≤ 63 ∧ 0 < y.2.2.length) (fun y => ⟨[(0, .bp 2001 0), (4, nv 0)], nBx s y.2.1 y.2.2 0⟩) (fun y => y.1) ⟨(f, q1), Enter.mk [] [] [(2003, 22)] ?_, Nat.le_refl _, hq2, by show 2 * (s.size - q1.1) + 1 < f; omega, ghi, g63, by show 0 < q1.2.length; simp at gl; omega⟩ ?_
      · simp only [nBx, nums, rowsS, nodes, zv, nv, bv, sv, VZ, BEq.rfl, seval, -Int.reduceNatCast', kAgg, scD, List.all_cons, List.all_nil]
        try rfl
      rintro ⟨f', p', ns'⟩ ⟨k0, k1, k5, k2, k3, k4⟩
      have k0 : f' ≤ f := k0
      have k1 : rdG s f' true p' ns' ((0 : Nat) : Int) = none := k1
      have k5 : 2 * (s.size - p') + 1 < f' := k5
      have k2 : p' ≤ s.size := k2
      have k3 : ns'.length ≤ 63 := k3
      have k4 : 0 < ns'.length := k4
      simp only [nBx, nums, rowsS, nodes, zv, nv, bv, sv, VZ, BEq.rfl, seval, -Int.reduceNatCast', kAgg, scD, List.all_cons, List.all_nil]
      refine CallMVC.mk [] [(2001, 2002)] (take_ok s p' 44 hs k2) ?_ ?_
      · simp only [nums, rowsS, nodes, zv, nv, bv, sv, VZ, BEq.rfl, seval, -Int.reduceNatCast', kAgg, scD, List.all_cons, List.all_nil]
      simp only [nums, rowsS, nodes, zv, nv, bv, sv, VZ, BEq.rfl, seval, -Int.reduceNatCast', kAgg, scD, List.all_cons, List.all_nil]
      cases f' with
      | zero => omega
      | succ f' =>
      rw [rdG] at k1
      refine guardB.mk (fun h2 => ?_) (fun h2 => ?_)
      · rw [if_pos h2] at k1
        have hlt2 := takeB_lt h2
        simp only [h2, take_yes h2, nums, rowsS, nodes, zv, nv, bv, sv, VZ, BEq.rfl, seval, -Int.reduceNatCast', kAgg, scD, List.all_cons, List.all_nil]
        cases hq3 : rdG s f' false (p' + 1) ns' ((0 : Nat) : Int) with
        | none =>
          refine PanVC.pan rfl ?_
          simp only [nums, rowsS, nodes, zv, nv, bv, sv, VZ, BEq.rfl, seval, -Int.reduceNatCast', kAgg, scD, List.all_cons, List.all_nil]
          refine PanCall.mk [] [] [] [] (bad_used s hs f f' (by omega) (p' + 1) ns' ((0 : Nat) : Int) hq3 (by omega) (by omega) k3) ?_ ?_
          · simp only [nBx, nums, rowsS, nodes, zv, nv, bv, sv, VZ, BEq.rfl, seval, -Int.reduceNatCast', kAgg, scD, List.all_cons, List.all_nil]
            try rfl
          · rfl
        | some q2 =>
        rw [hq3] at k1
        have hq4 : rdG s f' true q2.1 q2.2 ((0 : Nat) : Int) = none := k1
        have g2 := rdG_ok hs f' false (p' + 1) _ _ q2 hq3 (by omega) k3
        have g2l := g2.len
        have g2o := g2.lo
        have g2h := g2.hi
        have g263 := g2.le63
        refine PanVC.go ?_
        simp only [nums, rowsS, nodes, zv, nv, bv, sv, VZ, BEq.rfl, seval, -Int.reduceNatCast', kAgg, scD, List.all_cons, List.all_nil]
        refine CallMVC.mk [] [] (node_used s hs f f' (by omega) (p' + 1) ns' ((0 : Nat) : Int) q2 hq3 (by omega) k3) ?_ ?_
        · simp only [nBx, nums, rowsS, nodes, zv, nv, bv, sv, VZ, BEq.rfl, seval, -Int.reduceNatCast', kAgg, scD, List.all_cons, List.all_nil]
          try rfl
        simp only [nBx, nums, rowsS, nodes, zv, nv, bv, sv, VZ, BEq.rfl, seval, -Int.reduceNatCast', kAgg, scD, List.all_cons, List.all_nil]
        refine ⟨(f', q2), Enter.mk [] [] [] ?_, ⟨by show f' ≤ f; omega, hq4, by show 2 * (s.size - q2.1) + 1 < f'; omega, g2h, g263, by show 0 < q2.2.length; simp at g2l; omega⟩, by show f' < f' + 1; omega⟩
        simp only [nBx, nums, rowsS, nodes, zv, nv, bv, sv, VZ, BEq.rfl, seval, -Int.reduceNatCast', kAgg, scD, List.all_cons, List.all_nil]
        try rfl
      · rw [if_neg (by rw [h2]; decide)] at k1
        cases h3 : takeB s p' 41 with
        | true =>
          rw [h3] at k1
          cases k1
        | false =>
          simp only [h2, take_no h2, nums, rowsS, nodes, zv, nv, bv, sv, VZ, BEq.rfl, seval, -Int.reduceNatCast', kAgg, scD, List.all_cons, List.all_nil]
          refine CallMVC.mk [] [(2001, 2002)] (take_ok s p' 41 hs k2) ?_ ?_
          · simp only [nums, rowsS, nodes, zv, nv, bv, sv, VZ, BEq.rfl, seval, -Int.reduceNatCast', kAgg, scD, List.all_cons, List.all_nil]
          simp only [h3, take_no h3, nums, rowsS, nodes, zv, nv, bv, sv, VZ, BEq.rfl, seval, -Int.reduceNatCast', kAgg, scD, List.all_cons, List.all_nil]
          refine PanVC.wrong 82 47 48 (by kernel_rfl) ?_
          try rfl
    · rw [if_neg (by rw [h]; decide)] at hq
      cases hq

end Go.Cp
end

section
set_option linter.unusedVariables false
set_option linter.unusedSimpArgs false
set_option maxHeartbeats 4000000
set_option maxRecDepth 10000
namespace Go.Cp
open Go Go.Proofs Go.RowKit Go.Vx

theorem ntmps53 : Try.f53.ntmps = 11 := rfl
theorem und20 : Try.prog.underlying 20 = some (.interface (Try.prog.methodsAt 20)) := by kernel_rfl
theorem round_none : (fenceR none).round = none := rfl
theorem res53 : Try.f53.results = #[] := rfl
theorem idle53 (p2 p3 : Value) (w : World) : CallsDIn (fenceR none) 0 Try.prog 53 #[p2, p3] .returning w fun e u' w' => e = .returned (.tuple #[]) ∧ u' = .returning ∧ w' = w := by
  refine callsDIn_of_wpSIn Try.func53 rfl trivial fun c₀ cs hu => ?_
  apply wpSIn_seq
  apply wpSIn_region
  simp [wpOpsSIn, go_sem, recoverD, hu, ntmps53, Exit.thenS]
  refine wpSIn_of_wpIn rfl (wpIn_block (wpIn_seq (wpIn_region ?_)))
  simp [wpOpsIn, go_sem, Region.wanted, Exit.then, round_none, Oper.semAt_none, run_eql_nil_nil _ _ und20]
  refine wpIn_cond_true (by simp [Act.eval, Array.replicate]) (wpIn_region ?_)
  simp [wpOpsIn, go_sem, Region.wanted, round_none, Oper.semAt_none]
  cases c₀
  simp_all [bodyPostS, Exit.inBlock, results, res53]

theorem und82 : Try.prog.underlying 82 = some (.struct #[]) := by kernel_rfl
/-- the world behind the deferred call that caught the panic -/
def caughtW (w : World) (g2 g3 : Nat) : World := ((w.alloc (.cells #[] 82)).setCell ⟨g2, 0, none⟩ (.slice none 0 0)).setCell ⟨g3, 0, none⟩ (.int .i64 10)
theorem caught_at {w : World} {g2 g3 e2 e3 : Nat} {x2 x3 : Value} (h2 : w.heap[g2]? = some (.cells #[x2] e2 (0, 0))) (h3 : w.heap[g3]? = some (.cells #[x3] e3 (0, 0))) (hne : g2 ≠ g3) :
    (caughtW w g2 g3).cell? ⟨g2, 0, none⟩ = some (.slice none 0 0) ∧ (caughtW w g2 g3).cell? ⟨g3, 0, none⟩ = some (.int .i64 10) := by
  have a2 : (w.alloc (.cells #[] 82)).heap[g2]? = some (.cells #[x2] e2 (0, 0)) := by rw [Below.heap_alloc _ _ _ (lt_of_block h2)]; exact h2
  have a3 : (w.alloc (.cells #[] 82)).heap[g3]? = some (.cells #[x3] e3 (0, 0)) := by rw [Below.heap_alloc _ _ _ (lt_of_block h3)]; exact h3
  have b2 := one_setCell (u := .slice none 0 0) a2
  have b3 : ((w.alloc (.cells #[] 82)).setCell ⟨g2, 0, none⟩ (.slice none 0 0)).heap[g3]? = some (.cells #[x3] e3 (0, 0)) := by rw [Below.heap_setCell _ _ _ _ (fun e => hne e.symm)]; exact a3
  have c3 := one_setCell (u := .int .i64 10) b3
  refine ⟨cell_of_one (t := e2) ?_, cell_of_one c3⟩
  rw [caughtW, Below.heap_setCell _ _ _ _ (fun e => hne e)]
  exact b2
theorem caught_below {w0 w : World} {B g2 g3 : Nat} (h : Below B w0 w) (hB : B ≤ w.heap.size) (h2 : B ≤ g2) (h3 : B ≤ g3) : Below B w0 (caughtW w g2 g3) := ((h.alloc hB _).setCell (p := ⟨g2, 0, none⟩) h2 _).setCell (p := ⟨g3, 0, none⟩) h3 _
theorem catch53 {w : World} {g2 g3 e2 e3 : Nat} {x2 x3 : Value} (h2 : w.heap[g2]? = some (.cells #[x2] e2 (0, 0))) (h3 : w.heap[g3]? = some (.cells #[x3] e3 (0, 0))) (hne : g2 ≠ g3) :
    CallsDIn (fenceR none) 0 Try.prog 53 #[.pointer (some ⟨g2, 0, none⟩), .pointer (some ⟨g3, 0, none⟩)] (.panicking wrongC) w fun e u' w' => e = .returned (.tuple #[]) ∧ u' = .panicking [{ v := .iface 82 (.agg #[]), recovered := true }] ∧ w' = caughtW w g2 g3 := by
  have a2 : (w.alloc (.cells #[] 82)).heap[g2]? = some (.cells #[x2] e2 (0, 0)) := by rw [Below.heap_alloc _ _ _ (lt_of_block h2)]; exact h2
  have a3 : (w.alloc (.cells #[] 82)).heap[g3]? = some (.cells #[x3] e3 (0, 0)) := by rw [Below.heap_alloc _ _ _ (lt_of_block h3)]; exact h3
  have b3 : ((w.alloc (.cells #[] 82)).setCell ⟨g2, 0, none⟩ (.slice none 0 0)).heap[g3]? = some (.cells #[x3] e3 (0, 0)) := by rw [Below.heap_setCell _ _ _ _ (fun e => hne e.symm)]; exact a3
  have c2 := cell_of_one a2
  have c3 := cell_of_one b3
  have f2 := free_of_one a2
  have f3 := free_of_one b3
  refine callsDIn_of_wpSIn Try.func53 rfl trivial fun c₀ cs hu => ?_
  apply wpSIn_seq
  apply wpSIn_region
  simp [wpOpsSIn, go_sem, recoverD, hu, wrongC, ntmps53, Exit.thenS]
  refine wpSIn_of_wpIn rfl (wpIn_block (wpIn_seq (wpIn_region ?_)))
  simp [wpOpsIn, go_sem, Region.wanted, Exit.then, round_none, Oper.semAt_none, run_eql_held_nil _ _ _ _ und20]
  refine wpIn_cond_false (by simp [Act.eval, Array.replicate]) (wpIn_seq (wpIn_region ?_))
  simp [wpOpsIn, go_sem, Region.wanted, Exit.then, round_none, Oper.semAt_none, Instr.typeAssert, run_underlying und82]
  refine wpIn_cond_true (by simp [Act.eval, Array.replicate]) (wpIn_seq (wpIn_region ?_))
  simp [wpOpsIn, go_sem, Region.wanted, Exit.then, round_none, Oper.semAt_none]
  refine wpIn_region ?_
  simp [wpOpsIn, go_sem, Region.wanted, Exit.then, round_none, Oper.semAt_none, c2, c3, f2, f3]
  cases c₀
  simp_all [bodyPostS, Exit.inBlock, results, res53, caughtW]

/-! a body: two regions, a way out, the `defer`, the rest -/
def okQ (K : S → Prop) : Exit → S → Prop
  | .normal, s => K s
  | _, _ => False
def earlyQ (rs : List RS) (r : AV) : Exit → S → Prop
  | .ret, s => retC E rs r s (outL E s rs)
  | _, _ => False
def endQ (rs : List RS) (r : AV) : Exit → S → Prop
  | .panic ch, s => ch = wrongC ∧ rs = [.cell 2 22, .cell 3 27] ∧ r = .tp [.c (.sl []), .c (.sc (.int .i64 10))] ∧ Vx.look 2 s.fr = .bp 2 0 ∧ Vx.look 3 s.fr = .bp 3 0 ∧ (∃ x2, lookB 2 s.bx = .cells [x2]) ∧ ∃ x3, lookB 3 s.bx = .cells [x3]
  | e, s => retCQ E rs r e s
theorem endQ_normal (rs : List RS) (r : AV) (s : S) : endQ rs r .normal s = retCQ E rs r .normal s := rfl
theorem endQ_ret (rs : List RS) (r : AV) (s : S) : endQ rs r .ret s = retCQ E rs r .ret s := rfl
theorem endQ_panic (rs : List RS) (r : AV) (ch : List PanicEntry) (s : S) : endQ rs r (.panic ch) s = (ch = wrongC ∧ rs = [.cell 2 22, .cell 3 27] ∧ r = .tp [.c (.sl []), .c (.sc (.int .i64 10))] ∧ Vx.look 2 s.fr = .bp 2 0 ∧ Vx.look 3 s.fr = .bp 3 0 ∧ (∃ x2, lookB 2 s.bx = .cells [x2]) ∧ ∃ x3, lookB 3 s.bx = .cells [x3]) := rfl
def deferK (L : Sus) (rs : List RS) (r : AV) (t : Nat) (X1 B : Code) (s : S) : Prop :=
  ∃ b : Bool, Vx.look t s.fr = AV.c (D.sc (Value.bool b)) ∧ (b = true → vc Try.prog E L [] X1 (earlyQ rs r) s) ∧ (b = false → ∃ c2 c3, Vx.look 2 s.fr = .bp 2 0 ∧ Vx.look 3 s.fr = .bp 3 0 ∧ lookB 2 s.bx = .cells [c2] ∧ lookB 3 s.bx = .cells [c3] ∧ vc Try.prog E L [(2, .cells [c2]), (3, .cells [c3])] B (endQ rs r) ⟨(8, .top) :: s.fr, s.bx⟩)
def idleD (p2 p3 : Value) : Deferred := { target := .fn (.func 53) #[p2, p3], args := #[] }

theorem leave_marks {P : Program} {F : Fence} {n : Nat} {fn : Func} {tmps : Array Value} {R : Ending → World → Prop} {dt : List Deferred} {u : FrameMode} (hu : u ≠ .run) : ∀ (ds : List Nat) (w : World), ds.Nodup → (∀ D ∈ ds, w.heap[D]? = some (.deferred (some []))) →
    LeavesInM F n P fn tmps R dt u (shut ds w) → LeavesInM F n P fn tmps R (ds.map Vx.mark ++ dt) u w
  | [], w, _, _, h => h
  | D :: ds, w, hn, hd, h => by
    rw [List.nodup_cons] at hn
    refine ⟨hu, .inl ⟨D, w.putObj D (.deferred none), rfl, run_takeDeferred (hd D (List.mem_cons_self ..)), ?_⟩⟩
    refine leave_marks hu ds _ hn.2 (fun D' hD' => ?_) h
    rw [World.putObj_heap_other fun e => hn.1 (by rw [← e]; exact hD')]
    exact hd D' (List.mem_cons_of_mem _ hD')
theorem leave_idle {fn : Func} {tmps : Array Value} {R : Ending → World → Prop} {p2 p3 : Value} {w : World} (h : LeavesInM (fenceR none) 0 Try.prog fn tmps R [] .returning w) : LeavesInM (fenceR none) 0 Try.prog fn tmps R [idleD p2 p3] .returning w := by
  refine ⟨by simp, .inr ⟨(fun h => nomatch h), Fn.func 53, #[p2, p3], 53, #[p2, p3], rfl, ?_, fun g hg => trivial, (idle53 p2 p3 w).mono ?_⟩⟩
  · simp [idleD, go_sem]
  · rintro e u' w'' ⟨rfl, rfl, rfl⟩
    exact h

theorem ok_of_defer {f : Nat} {fn : Func} {i0 i1 i3 t : Nat} {ops0 ops1 ops3 : Array Oper} {X1 B : Code} {rs : List RS} {L : Sus} {args : List AV} {r : AV}
    (hf : Try.prog.funcs[f]? = some fn) (hb : fn.body = some (.seq (.region i0 ops0 false) (.seq (.seq (.region i1 ops1 false) (.cond (.tmp t) X1 .skip)) (.seq (.region i3 ops3 false) B)))) (hn : (fn.name == "runtime.NumGoroutine") = false)
    (hres : fn.results.toList = rs.map RS.rv) (hc0 : codeB fn.ntmps L (.region i0 ops0 false) = true) (hc1 : codeB fn.ntmps L (.region i1 ops1 false) = true) (hcX : codeB fn.ntmps L X1 = true) (hcB : codeB fn.ntmps L B = true) (ha : Nat.ble args.length fn.ntmps = true)
    (hD : ∀ (K : Act → World → Prop) (Q' : Exit → Act → World → Prop) (a : Act) (w : World), a.tmps.size = fn.ntmps → (∀ v8, K ⟨a.tmps.setIfInBounds 8 v8, idleD (a.tmps.getD 2 undef) (a.tmps.getD 3 undef) :: a.defers⟩ w) → (Code.region i3 ops3 false).wpIn (fenceR none) 0 Try.prog (Exit.then K Q') a w)
    (h : (∀ av ∈ args, LenA av) → vc Try.prog E L [] (.region i0 ops0 false) (okQ fun s1 => vc Try.prog E L [] (.region i1 ops1 false) (okQ (deferK L rs r t X1 B)) s1) (argsS args)) : Ok Try.prog E f args r := by
  have ha := Nat.le_of_ble_eq_true ha
  refine ⟨⟨fn, hf, hn, by rw [hb]; rfl⟩, fun w M vals hM hvs hv => ?_⟩
  have hlen : ∀ av ∈ args, LenA av := fun av hav => by
    obtain ⟨j, hj⟩ := List.getElem?_of_mem hav
    exact (hv j av hj).len
  let X : Ctx := ⟨Try.prog, E, w, M, fun _ => False, fn.ntmps, [], fun _ => undef, [], []⟩
  refine calls_of (r := none) (n := 0) (callsIn_of_wp_marks hf hb trivial ?_)
  have hI : Inv X (argsS args) ⟨vals ++ Array.replicate (fn.ntmps - vals.size) undef, []⟩ w (fun _ => undef) := by
    refine ⟨⟨rfl, List.nodup_nil, fun D hD => by cases hD⟩, ?_, ⟨rfl, rfl, rfl, Nat.le_refl _, fun _ _ _ => rfl⟩, fun k hk => ⟨hM k hk, fun h => h⟩, fun id => trivial, fun i j k hl => (by cases hl), fun i => ?_, fun id => trivial⟩
    · show (vals ++ Array.replicate (fn.ntmps - vals.size) undef).size = fn.ntmps
      rw [Array.size_append, Array.size_replicate]; omega
    · show RV w _ _ _ ((vals ++ Array.replicate (fn.ntmps - vals.size) undef).getD i undef) (Vx.look i (frOf 0 args))
      rw [look_frOf, if_pos (Nat.zero_le _), Nat.sub_zero]
      cases hi : args[i]? with
      | none => exact .top _
      | some av =>
        have hlt : i < vals.size := by rw [hvs]; exact (List.getElem?_eq_some_iff.1 hi).1
        have e1 : (vals ++ Array.replicate (fn.ntmps - vals.size) undef).getD i undef = vals.getD i undef := by
          simp only [Array.getD_eq_getD_getElem?, Array.getElem?_append_left hlt]
        rw [e1]
        refine (hv i av hi).keep (Nat.le_refl _) (fun k hk hn => ⟨rfl, ?_⟩) fun id => trivial
        rintro (h | ⟨id, hl, _⟩)
        · exact hn h
        · cases hl
  -- how a body's end goes on, whatever is deferred
  have hmain : ∀ (X1 X' : Ctx) (s : S) (a : Act) (w' : World) (β : Nat → Value), X1.P = Try.prog → X1.E = E → X1.w0 = w → X1.M0 = M → X1.ext = (fun _ => False) → X1.n = fn.ntmps → X1.ds = [] → (X1.dt = [] ∨ ∃ p2 p3, X1.dt = [idleD p2 p3]) → Later X1 X' → Inv X' s a w' β → retC E rs r s (outL E s rs) →
      LeavesInM (fenceR none) 0 Try.prog fn a.tmps (fun e w' => ∃ v, e = .returned v ∧ Below w.heap.size w w' ∧ ResW E w' w.heap.size M v r) a.defers .returning w' := by
    intro X1 X' s a w' β eP eE ew eM ee en eds edt hL hI hr
    let Y1 : Ctx := { X1 with dt := [] }
    let Y : Ctx := { X' with dt := [] }
    have hLY : Later Y1 Y := ⟨hL.P, hL.E, hL.n, hL.pb, hL.pv, ⟨hL.keep.os, hL.keep.tape, hL.keep.output, hL.keep.size, hL.keep.block⟩, hL.own, hL.m0, hL.new, hL.ds, rfl⟩
    have hIY : Inv Y s ⟨a.tmps, X'.ds.map Vx.mark⟩ w' β := ⟨⟨(List.append_nil _).symm, hI.df.2⟩, hI.sz, ⟨hI.keep.os, hI.keep.tape, hI.keep.output, hI.keep.size, hI.keep.block⟩, hI.m0, fun id => (hI.box id).ctx rfl fun k hl hb => ((hI.box id).lt hl hb).2, hI.inj, hI.fr, hI.pin⟩
    obtain ⟨X2, hL2, hI2, hnd, hds⟩ := hIY.shut hLY eds rfl
    have hgoal : ∃ v, (results fn a.tmps).run Try.prog (shut X'.ds w') = .ok v (shut X'.ds w') ∧ ∃ v', (Ending.returned v) = .returned v' ∧ Below w.heap.size w (shut X'.ds w') ∧ ResW E (shut X'.ds w') w.heap.size M v' r := by
      have eE2 : X2.E = E := hL2.E.trans eE
      have eP2 : X2.P = Try.prog := hL2.P.trans eP
      cases ho : outL E s rs with
      | none => rw [ho] at hr; exact hr.elim
      | some avs =>
        rw [ho] at hr
        have ho' : outL X2.E s rs = some avs := by rw [eE2]; exact ho
        obtain ⟨vs, g1, g2, g3⟩ := run_outs (a := ⟨a.tmps, []⟩) hres hI2 (by rw [eP2, eE2]; exact envOK) ho'
        have hk := hL2.world hI2.keep
        rw [eP2] at g2
        have ew1 : Y1.w0 = w := ew
        have hk' : Below w.heap.size w (shut X'.ds w') := by
          refine ⟨hk.os.trans (by rw [ew1]), hk.tape.trans (by rw [ew1]), hk.output.trans (by rw [ew1]), by have := hk.size; rwa [ew1] at this, fun k hk' => ?_⟩
          have := hk.block k (by rw [ew1]; exact hk') (by show ¬ X1.ext k; rw [ee]; exact fun h => h)
          rwa [ew1] at this
        refine ⟨_, g2, _, rfl, hk', ?_⟩
        have hI3 := hI2.grow g1 g3
        have hB : ∀ k, (X2.grow avs.length).own k → w.heap.size ≤ k := fun k hk => by
          rcases hL2.own k hk with h | h
          · have h : X1.w0.heap.size ≤ k := h
            rwa [ew] at h
          · have h : X1.ext k := h
            rw [ee] at h
            exact h.elim
        have := ret_sound (B := w.heap.size) (M := M) (ts := List.range' X2.n avs.length) (r := r) (by show EnvOK X2.P X2.E; rw [eP2, eE2]; exact envOK) hB (fun k hk => hL2.m0 k (by show X1.M0 k; rw [eM]; exact hk)) hI3 (by
          show RetVC X2.E r s.bx _
          rw [range_look, eE2]; exact hr)
        rw [← g1] at this
        have e : resV (List.range' X2.n vs.length) (a.tmps ++ vs.toArray) = resVs vs := range_vals a.tmps X2.n hI2.sz vs
        rw [← e, ← eE2]
        exact this
    have hle : LeavesInM (fenceR none) 0 Try.prog fn a.tmps (fun e w' => ∃ v, e = .returned v ∧ Below w.heap.size w w' ∧ ResW E w' w.heap.size M v r) [] .returning (shut X'.ds w') := by
      obtain ⟨v, h1, h2⟩ := hgoal
      exact ⟨v, h1, h2⟩
    rw [hI.df.1]
    refine leave_marks (by simp) X'.ds w' hnd hds ?_
    rw [hL.dt]
    rcases edt with e | ⟨p2, p3, e⟩
    · rw [e]; exact hle
    · rw [e]; exact leave_idle hle
  have hfin : ∀ (X1 X' : Ctx) (e : Exit) (s : S) (a : Act) (w' : World) (β : Nat → Value), X1.P = Try.prog → X1.E = E → X1.w0 = w → X1.M0 = M → X1.ext = (fun _ => False) → X1.n = fn.ntmps → X1.ds = [] → (X1.dt = [] ∨ ∃ p2 p3, X1.dt = [idleD p2 p3]) → Later X1 X' → Inv X' s a w' β → (∀ ch, e ≠ .panic ch) → retCQ E rs r e s →
      bodyPostM (fenceR none) 0 Try.prog fn (fun e w' => ∃ v, e = .returned v ∧ Below w.heap.size w w' ∧ ResW E w' w.heap.size M v r) e a w' := by
    intro X1 X' e s a w' β h1 h2 h3 h4 h5 h6 h7 h8 hL hI hnp hq
    cases e with
    | normal => exact hmain X1 X' s a w' β h1 h2 h3 h4 h5 h6 h7 h8 hL hI hq
    | ret => exact hmain X1 X' s a w' β h1 h2 h3 h4 h5 h6 h7 h8 hL hI hq
    | exit i => exact hq.elim
    | goto l => exact hq.elim
    | panic ch => exact (hnp ch rfl).elim
    | outgrown => exact hq.elim
  -- the panic that is caught
  have hpan : ∀ (X1 X' : Ctx) (ch : List PanicEntry) (s : S) (a : Act) (w' : World) (β : Nat → Value) (g2 g3 : Nat) (c2 c3 : AV), X1.P = Try.prog → X1.E = E → X1.w0 = w → X1.M0 = M → X1.ext = (fun _ => False) → X1.n = fn.ntmps → X1.ds = [] →
      X1.dt = [idleD (.pointer (some ⟨g2, 0, none⟩)) (.pointer (some ⟨g3, 0, none⟩))] → X1.pb = [(2, .cells [c2]), (3, .cells [c3])] → X1.pv 2 = .pointer (some ⟨g2, 0, none⟩) → X1.pv 3 = .pointer (some ⟨g3, 0, none⟩) → Later X1 X' → Inv X' s a w' β → endQ rs r (.panic ch) s →
      LeavesInM (fenceR none) 0 Try.prog fn a.tmps (fun e w' => ∃ v, e = .returned v ∧ Below w.heap.size w w' ∧ ResW E w' w.heap.size M v r) a.defers (.panicking ch) w' := by
    intro X1 X' ch s a w' β g2 g3 c2 c3 eP eE ew eM ee en eds edt epb ev2 ev3 hL hI hr
    obtain ⟨rfl, ers, er, hl2, hl3, ⟨x2, hx2⟩, x3, hx3⟩ := hr
    let Y1 : Ctx := { X1 with dt := [] }
    let Y : Ctx := { X' with dt := [] }
    have hLY : Later Y1 Y := ⟨hL.P, hL.E, hL.n, hL.pb, hL.pv, ⟨hL.keep.os, hL.keep.tape, hL.keep.output, hL.keep.size, hL.keep.block⟩, hL.own, hL.m0, hL.new, hL.ds, rfl⟩
    have hIY : Inv Y s ⟨a.tmps, X'.ds.map Vx.mark⟩ w' β := ⟨⟨(List.append_nil _).symm, hI.df.2⟩, hI.sz, ⟨hI.keep.os, hI.keep.tape, hI.keep.output, hI.keep.size, hI.keep.block⟩, hI.m0, fun id => (hI.box id).ctx rfl fun k hl hb => ((hI.box id).lt hl hb).2, hI.inj, hI.fr, hI.pin⟩
    obtain ⟨X2, hL2, hI2, hnd, hds⟩ := hIY.shut hLY eds rfl
    have ew1 : Y1.w0 = w := ew
    have hk := hL2.world hI2.keep
    have hk' : Below w.heap.size w (shut X'.ds w') := by
      refine ⟨hk.os.trans (by rw [ew1]), hk.tape.trans (by rw [ew1]), hk.output.trans (by rw [ew1]), by have := hk.size; rwa [ew1] at this, fun k hk' => ?_⟩
      have := hk.block k (by rw [ew1]; exact hk') (by show ¬ X1.ext k; rw [ee]; exact fun h => h)
      rwa [ew1] at this
    have hB : ∀ k, X2.own k → w.heap.size ≤ k := fun k hk => by
      rcases hL2.own k hk with h | h
      · have h : X1.w0.heap.size ≤ k := h
        rwa [ew] at h
      · have h : X1.ext k := h
        rw [ee] at h
        exact h.elim
    have epb2 : X2.pb = X1.pb := hL2.pb
    have epv2 : X2.pv = X1.pv := hL2.pv
    have hp2 := hI2.pin 2
    have hp3 := hI2.pin 3
    rw [epb2, epv2, epb] at hp2 hp3
    have hβ2 : β 2 = .pointer (some ⟨g2, 0, none⟩) := by
      have : Turned (.cells [c2]) (X1.pv 2) (lookB 2 s.bx) (β 2) := hp2
      rw [← ev2]; exact this.2
    have hβ3 : β 3 = .pointer (some ⟨g3, 0, none⟩) := by
      have : Turned (.cells [c3]) (X1.pv 3) (lookB 3 s.bx) (β 3) := hp3
      rw [← ev3]; exact this.2
    have hbox2 := hI2.box 2
    have hbox3 := hI2.box 3
    rw [show lookB 2 s.bx = .cells [x2] from hx2] at hbox2
    rw [show lookB 3 s.bx = .cells [x3] from hx3] at hbox3
    obtain ⟨k2, e2, conc2, i1, i2, i3, i4, _⟩ := hbox2
    obtain ⟨k3, e3, conc3, j1, j2, j3, j4, _⟩ := hbox3
    have hk2 : k2 = g2 := by rw [hβ2] at i1; injection i1 with i1; injection i1 with i1; injection i1 with i1; exact i1.symm
    have hk3 : k3 = g3 := by rw [hβ3] at j1; injection j1 with j1; injection j1 with j1; injection j1 with j1; exact j1.symm
    subst hk2; subst hk3
    have hone : ∀ (c : Array Value), c.size = 1 → ∃ y, c = #[y] := fun c hc => ⟨c[0]'(by omega), by
      apply Array.ext
      · exact hc
      · intro i h1 h2
        have : i = 0 := by omega
        subst this; rfl⟩
    obtain ⟨y2, rfl⟩ := hone conc2 i4
    obtain ⟨y3, rfl⟩ := hone conc3 j4
    have hne : k2 ≠ k3 := fun e => by
      have := hI2.inj 2 3 k2 (by rw [show lookB 2 s.bx = .cells [x2] from hx2]; rfl) (by rw [show lookB 3 s.bx = .cells [x3] from hx3]; rfl) (by rw [hβ2]; rfl) (by rw [hβ3, ← e]; rfl)
      omega
    have hv2 : a.tmps.getD 2 undef = .pointer (some ⟨k2, 0, none⟩) := by
      have h := hI2.fr 2
      rw [show Vx.look 2 s.fr = .bp 2 0 from hl2] at h
      have h : RV _ _ β _ (a.tmps.getD 2 undef) (.bp 2 0) := h
      generalize a.tmps.getD 2 undef = vv at h
      cases h with
      | bp _ _ g cs hl hb =>
        rw [hβ2] at hb; injection hb with hb; injection hb with hb; injection hb with hb
        rw [hb]
    have hv3 : a.tmps.getD 3 undef = .pointer (some ⟨k3, 0, none⟩) := by
      have h := hI2.fr 3
      rw [show Vx.look 3 s.fr = .bp 3 0 from hl3] at h
      have h : RV _ _ β _ (a.tmps.getD 3 undef) (.bp 3 0) := h
      generalize a.tmps.getD 3 undef = vv at h
      cases h with
      | bp _ _ g cs hl hb =>
        rw [hβ3] at hb; injection hb with hb; injection hb with hb; injection hb with hb
        rw [hb]
    have hcau : (caughtW (shut X'.ds w') k2 k3).cell? ⟨k2, 0, none⟩ = some (.slice none 0 0) ∧ (caughtW (shut X'.ds w') k2 k3).cell? ⟨k3, 0, none⟩ = some (.int .i64 10) := caught_at i3 j3 hne
    have hfin3 : fn.results = #[RS.rv (.cell 2 22), RS.rv (.cell 3 27)] := by
      rw [ers] at hres
      rw [← Array.toList_inj]; exact hres
    rw [hI.df.1]
    refine leave_marks (by simp) X'.ds w' hnd hds ?_
    rw [hL.dt, edt]
    refine ⟨by simp, .inr ⟨(fun h => nomatch h), Fn.func 53, _, 53, _, rfl, ?_, fun g hg => trivial, (catch53 i3 j3 hne).mono ?_⟩⟩
    · simp [idleD, go_sem]
    rintro e u' w'' ⟨rfl, rfl, rfl⟩
    have hres2 : (results fn a.tmps).run Try.prog (caughtW (shut X'.ds w') k2 k3) = .ok (.tuple #[.slice none 0 0, .int .i64 10]) (caughtW (shut X'.ds w') k2 k3) := by
      simp only [Array.getD_eq_getD_getElem?] at hv2 hv3
      simp [results, hfin3, RS.rv, go_sem, hv2, hv3, hcau.1, hcau.2]
    refine ⟨_, hres2, _, rfl, caught_below hk' hk'.size (hB _ i2) (hB _ j2), ?_⟩
    rw [er]
    refine ⟨_, rfl, rfl, fun j r hj => ?_⟩
    match j, hj with
    | 0, hj =>
      have hj : some (AV.c (.sl [])) = some r := hj
      injection hj with hj
      subst hj
      exact Rp.nil _ _
    | 1, hj =>
      have hj : some (AV.c (.sc (.int .i64 10))) = some r := hj
      injection hj with hj
      subst hj
      exact .sc _ rfl
  refine wpIn_seq (region_soundP (X := X) envOK mixed (.inl rfl) hc0 (h hlen) hI fun e s1 a1 w1 β1 hq hI1 => ?_)
  cases e with
  | normal =>
    refine wpIn_seq (wpIn_seq (region_soundP (X := X) envOK mixed (.inl rfl) hc1 hq hI1 fun e s2 a2 w2 β2 hq2 hI2 => ?_))
    cases e with
    | normal =>
      obtain ⟨b, hb1, hb2, hb3⟩ := hq2
      have hv := hI2.fr t
      rw [hb1] at hv
      have hev : a2.eval (.tmp t) = .bool b := by
        show a2.tmps.getD t undef = .bool b
        generalize a2.tmps.getD t undef = vv at hv
        cases hv.to_c; rfl
      refine wpIn_cond hev ?_
      cases b with
      | true =>
        refine vc_sound envOK mixed L X1 none 0 _ _ (X := X) rfl rfl (.inl rfl) hcX (hb2 rfl) hI2 fun e X' s3 a3 w3 β3 hL hq3 hI3 => ?_
        cases e with
        | ret => exact hfin X X' .ret s3 a3 w3 β3 rfl rfl rfl rfl rfl rfl rfl (.inl rfl) hL hI3 (fun _ h => nomatch h) hq3
        | normal => exact hq3.elim
        | exit i => exact hq3.elim
        | goto l => exact hq3.elim
        | panic ch => exact hq3.elim
        | outgrown => exact hq3.elim
      | false =>
        refine wpIn_skip ?_
        show Code.wpIn _ _ _ _ _ _ _
        refine wpIn_seq (hD _ _ a2 w2 hI2.sz fun v8 => ?_)
        obtain ⟨c2, c3, hq2, hq3, hqb2, hqb3, hvc⟩ := hb3 rfl
        have hptr : ∀ i, Vx.look i s2.fr = .bp i 0 → ∃ g, a2.tmps.getD i undef = .pointer (some ⟨g, 0, none⟩) ∧ β2 i = .pointer (some ⟨g, 0, none⟩) := fun i hi => by
          have h := hI2.fr i
          rw [hi] at h
          generalize a2.tmps.getD i undef = vv at h
          cases h with
          | bp _ _ g cs hl hb => exact ⟨g, rfl, hb⟩
        obtain ⟨g2, hg2, hgb2⟩ := hptr 2 hq2
        obtain ⟨g3, hg3, hgb3⟩ := hptr 3 hq3
        rw [hg2, hg3]
        let Xd : Ctx := { X with dt := [idleD (.pointer (some ⟨g2, 0, none⟩)) (.pointer (some ⟨g3, 0, none⟩))], pb := [(2, .cells [c2]), (3, .cells [c3])], pv := β2 }
        have hI3 : Inv Xd ⟨(8, .top) :: s2.fr, s2.bx⟩ ⟨a2.tmps.setIfInBounds 8 v8, idleD (.pointer (some ⟨g2, 0, none⟩)) (.pointer (some ⟨g3, 0, none⟩)) :: a2.defers⟩ w2 β2 := by
          refine ⟨⟨?_, hI2.df.2⟩, ?_, ⟨hI2.keep.os, hI2.keep.tape, hI2.keep.output, hI2.keep.size, hI2.keep.block⟩, hI2.m0, fun id => (hI2.box id).ctx rfl fun k hl hb => ((hI2.box id).lt hl hb).2, hI2.inj, fun i => ?_, fun id => ?_⟩
          · have : a2.defers = [] := hI2.df.1
            rw [this]; rfl
          · show (a2.tmps.setIfInBounds 8 v8).size = fn.ntmps
            rw [Array.size_setIfInBounds]; exact hI2.sz
          · show RV w2 _ _ _ ((a2.tmps.setIfInBounds 8 v8).getD i undef) (Vx.look i ((8, .top) :: s2.fr))
            rw [look_cons]
            by_cases hi : i = 8
            · rw [if_pos hi]; exact .top _
            · rw [if_neg hi]
              have e1 : (a2.tmps.setIfInBounds 8 v8).getD i undef = a2.tmps.getD i undef := by
                simp [Array.getD_eq_getD_getElem?, Array.getElem?_setIfInBounds, Ne.symm hi]
              rw [e1]
              exact hI2.fr i
          · show Turned (lookB id [(2, .cells [c2]), (3, .cells [c3])]) (β2 id) (lookB id s2.bx) (β2 id)
            rw [lookB_cons, lookB_cons]
            by_cases h2 : id = 2
            · subst h2; rw [if_pos rfl, hqb2]; exact ⟨⟨_, rfl⟩, rfl⟩
            · rw [if_neg h2]
              by_cases h3 : id = 3
              · subst h3; rw [if_pos rfl, hqb3]; exact ⟨⟨_, rfl⟩, rfl⟩
              · rw [if_neg h3]; trivial
        refine vc_sound envOK mixed L B none 0 _ _ (X := Xd) rfl rfl (.inl rfl) hcB hvc hI3 fun e X' s3 a3 w3 β3 hL hq3 hI3 => ?_
        cases e with
        | panic ch => exact hpan Xd X' ch s3 a3 w3 β3 g2 g3 c2 c3 rfl rfl rfl rfl rfl rfl rfl rfl rfl hgb2 hgb3 hL hI3 hq3
        | normal => exact hfin Xd X' .normal s3 a3 w3 β3 rfl rfl rfl rfl rfl rfl rfl (.inr ⟨_, _, rfl⟩) hL hI3 (fun _ h => nomatch h) hq3
        | ret => exact hfin Xd X' .ret s3 a3 w3 β3 rfl rfl rfl rfl rfl rfl rfl (.inr ⟨_, _, rfl⟩) hL hI3 (fun _ h => nomatch h) hq3
        | exit i => exact hq3.elim
        | goto l => exact hq3.elim
        | outgrown => exact hq3.elim
    | ret => exact hq2.elim
    | exit i => exact hq2.elim
    | goto l => exact hq2.elim
    | panic ch => exact hq2.elim
    | outgrown => exact hq2.elim
  | ret => exact hq.elim
  | exit i => exact hq.elim
  | goto l => exact hq.elim
  | panic ch => exact hq.elim
  | outgrown => exact hq.elim

end Go.Cp
end

section
set_option linter.unusedVariables false
set_option linter.unusedSimpArgs false
set_option maxHeartbeats 4000000
set_option maxRecDepth 10000
namespace Go.Cp
open Go Go.Proofs Go.Vx

theorem small_of {ns : List Node} (h : Names ns) : Small ns := fun k hk => by
  have := h (ns.getD k Node.zero) (by rw [getD_of Node.zero ns k hk]; exact List.getElem_mem _)
  omega
theorem ntmps16 : Try.f16.ntmps = 32 := rfl
/-- what Parse makes of a text -/
def parseR (s : ByteArray) : Option (List Node) := match rdG s (2 * s.size + 2) false 0 [] (-1) with
  | some R => if R.1 = s.size ∧ okTree R.2 = true then some R.2 else none
  | none => none
def parseV (s : ByteArray) : List Node := if s.size ≤ 65536 then (parseR s).getD [] else []
def parseE (s : ByteArray) : Int := if s.size ≤ 65536 then (if (parseR s).isSome = true then 0 else 10) else 11
abbrev nilAV : AV := .c (.sc (.slice none 0 0))
theorem Parse_ok (s : ByteArray) : Ok Try.prog E 16 [sv s] (.tp [.c (nodes (parseV s)), zv (parseE s)]) := by
  refine ok_of_defer (L := [(5, [(0, 0)]), (7, [(0, 0)])]) (rs := [.cell 2 22, .cell 3 27]) Try.func16 rfl (by kernel_rfl) rfl (by kernel_rfl) (by kernel_rfl) (by kernel_rfl) (by kernel_rfl) rfl (fun K Q' a w hsz hK => ?_) fun hl => ?_
  · refine wpIn_region ?_
    have h8 : 8 < a.tmps.size := by rw [hsz, ntmps16]; omega
    have hK' := hK (.func (.func 53) #[] #[a.tmps.getD 2 undef, a.tmps.getD 3 undef])
    simp only [idleD, Array.getD_eq_getD_getElem?] at hK'
    simp [wpOpsIn, go_sem, Region.wanted, round_none, Oper.semAt_none, Exit.then, h8, Oper.uponIn]
    exact hK'
  · by_cases hs : s.size ≤ 65536
    · have e16 : decide ((65536 : Int) < (s.size : Int)) = false := decide_eq_false (by omega)
      have ev : parseV s = (parseR s).getD [] := if_pos hs
      have ee : parseE s = if (parseR s).isSome = true then 0 else 10 := if_pos hs
      have hbad : parseR s = none → (nodes (parseV s) = .sl [] ∧ parseE s = 10) := fun h => by rw [ev, ee, h]; exact ⟨rfl, rfl⟩
      simp only [okQ, e16, nums, rowsS, nodes, zv, nv, bv, sv, endQ_normal, endQ_ret, endQ_panic, VZ, BEq.rfl, seval, -Int.reduceNatCast', kAgg, scD, List.all_cons, List.all_nil]
      refine ⟨false, by simp only [nums, rowsS, nodes, zv, nv, bv, sv, endQ_normal, endQ_ret, endQ_panic, VZ, BEq.rfl, seval, -Int.reduceNatCast', kAgg, scD, List.all_cons, List.all_nil], (fun h => nomatch h), fun _ => ⟨nilAV, zv 0, by simp only [nums, rowsS, nodes, zv, nv, bv, sv, endQ_normal, endQ_ret, endQ_panic, VZ, BEq.rfl, seval, -Int.reduceNatCast', kAgg, scD, List.all_cons, List.all_nil], by simp only [nums, rowsS, nodes, zv, nv, bv, sv, endQ_normal, endQ_ret, endQ_panic, VZ, BEq.rfl, seval, -Int.reduceNatCast', kAgg, scD, List.all_cons, List.all_nil], ?_, ?_, ?_⟩⟩
      · simp only [nums, rowsS, nodes, zv, nv, bv, sv, endQ_normal, endQ_ret, endQ_panic, VZ, BEq.rfl, seval, -Int.reduceNatCast', kAgg, scD, List.all_cons, List.all_nil]
      · simp only [nums, rowsS, nodes, zv, nv, bv, sv, endQ_normal, endQ_ret, endQ_panic, VZ, BEq.rfl, seval, -Int.reduceNatCast', kAgg, scD, List.all_cons, List.all_nil]
      simp only [nums, rowsS, nodes, zv, nv, bv, sv, endQ_normal, endQ_ret, endQ_panic, VZ, BEq.rfl, seval, -Int.reduceNatCast', kAgg, scD, List.all_cons, List.all_nil]
      cases hr : rdG s (2 * s.size + 1 + 1) false 0 [] (-1) with
      | none =>
        have hp : parseR s = none := by rw [parseR, show 2 * s.size + 2 = 2 * s.size + 1 + 1 from rfl, hr]
        obtain ⟨b1, b2⟩ := hbad hp
        refine PanVC.pan rfl ?_
        simp only [nums, rowsS, nodes, zv, nv, bv, sv, endQ_normal, endQ_ret, endQ_panic, VZ, BEq.rfl, seval, -Int.reduceNatCast', kAgg, scD, List.all_cons, List.all_nil]
        refine PanCall.mk [] [(2001, 4), (2002, 11)] [(2, .bp 2 0), (3, .bp 3 0)] [(2, .cells [nilAV]), (3, .cells [zv 0])] (bad_fresh s hs (2 * s.size + 1) 0 [] (-1) hr (by omega) (Nat.zero_le _) (Nat.zero_le _) rfl) ?_ ?_
        · simp only [nBx0, nBx, nums, rowsS, nodes, zv, nv, bv, sv, endQ_normal, endQ_ret, endQ_panic, VZ, BEq.rfl, seval, -Int.reduceNatCast', kAgg, scD, List.all_cons, List.all_nil]
          try rfl
        · refine ⟨rfl, rfl, ?_, rfl, rfl, ⟨_, rfl⟩, _, rfl⟩
          simp only [nodes] at b1
          rw [b1, b2]
      | some R =>
      have hR := rdG_ok hs _ false 0 [] (-1) R hr (Nat.zero_le _) (Nat.zero_le _)
      have hnm := hR.nm (fun c hc => by cases hc)
      have hhi := hR.hi
      refine PanVC.go ?_
      simp only [nums, rowsS, nodes, zv, nv, bv, sv, endQ_normal, endQ_ret, endQ_panic, VZ, BEq.rfl, seval, -Int.reduceNatCast', kAgg, scD, List.all_cons, List.all_nil]
      refine CallMVC.mk [] [(2001, 4), (2002, 11)] (node_fresh s hs (2 * s.size + 1) 0 [] (-1) R hr (Nat.zero_le _) (Nat.zero_le _) rfl) ?_ ?_
      · simp only [nBx0, nBx, nums, rowsS, nodes, zv, nv, bv, sv, endQ_normal, endQ_ret, endQ_panic, VZ, BEq.rfl, seval, -Int.reduceNatCast', kAgg, scD, List.all_cons, List.all_nil]
        try rfl
      have hpr : parseR s = if R.1 = s.size ∧ okTree R.2 = true then some R.2 else none := by rw [parseR, show 2 * s.size + 2 = 2 * s.size + 1 + 1 from rfl, hr]
      by_cases hend : R.1 = s.size
      · have elt : decide ((R.1 : Int) < (s.size : Int)) = false := decide_eq_false (by omega)
        simp only [nBx0, nBx, elt, nums, rowsS, nodes, zv, nv, bv, sv, endQ_normal, endQ_ret, endQ_panic, VZ, BEq.rfl, seval, -Int.reduceNatCast', kAgg, scD, List.all_cons, List.all_nil]
        refine CallX.mk (check_ok R.2 (small_of hnm)) rfl ?_
        cases hck : okTree R.2 with
        | true =>
          rw [if_pos ⟨hend, hck⟩] at hpr
          have ev : parseV s = R.2 := by rw [ev, hpr]; rfl
          have ee : parseE s = 0 := by rw [ee, hpr]; rfl
          simp only [hck, ev, ee, errOf_true, nums, rowsS, nodes, zv, nv, bv, sv, endQ_normal, endQ_ret, endQ_panic, VZ, BEq.rfl, seval, -Int.reduceNatCast', kAgg, scD, List.all_cons, List.all_nil]
        | false =>
          rw [if_neg (by rw [hck]; simp)] at hpr
          obtain ⟨b1, b2⟩ := hbad hpr
          simp only [hck, errOf_false, nums, rowsS, nodes, zv, nv, bv, sv, endQ_normal, endQ_ret, endQ_panic, VZ, BEq.rfl, seval, -Int.reduceNatCast', kAgg, scD, List.all_cons, List.all_nil]
          refine PanVC.wrong 82 28 29 (by kernel_rfl) ?_
          refine ⟨rfl, rfl, ?_, rfl, rfl, ⟨_, rfl⟩, _, rfl⟩
          simp only [nodes] at b1
          rw [b1, b2]
      · have elt : decide ((R.1 : Int) < (s.size : Int)) = true := decide_eq_true (by omega)
        rw [if_neg (fun h => hend h.1)] at hpr
        obtain ⟨b1, b2⟩ := hbad hpr
        simp only [nBx0, nBx, elt, nums, rowsS, nodes, zv, nv, bv, sv, endQ_normal, endQ_ret, endQ_panic, VZ, BEq.rfl, seval, -Int.reduceNatCast', kAgg, scD, List.all_cons, List.all_nil]
        refine PanVC.wrong 82 28 29 (by kernel_rfl) ?_
        refine ⟨rfl, rfl, ?_, rfl, rfl, ⟨_, rfl⟩, _, rfl⟩
        simp only [nodes] at b1
        rw [b1, b2]
    · have e16 : decide ((65536 : Int) < (s.size : Int)) = true := decide_eq_true (by omega)
      have ev : parseV s = [] := if_neg hs
      have ee : parseE s = 11 := if_neg hs
      simp only [okQ, e16, nums, rowsS, nodes, zv, nv, bv, sv, endQ_normal, endQ_ret, endQ_panic, VZ, BEq.rfl, seval, -Int.reduceNatCast', kAgg, scD, List.all_cons, List.all_nil]
      refine ⟨true, by simp only [nums, rowsS, nodes, zv, nv, bv, sv, endQ_normal, endQ_ret, endQ_panic, VZ, BEq.rfl, seval, -Int.reduceNatCast', kAgg, scD, List.all_cons, List.all_nil], fun _ => ?_, fun h => nomatch h⟩
      simp only [ev, ee, earlyQ, nums, rowsS, nodes, zv, nv, bv, sv, endQ_normal, endQ_ret, endQ_panic, VZ, BEq.rfl, seval, -Int.reduceNatCast', kAgg, scD, List.all_cons, List.all_nil]
      done
theorem Parse_good (s : ByteArray) (hs : s.size ≤ 65536) (R : Nat × List Node) (hr : rdG s (2 * s.size + 2) false 0 [] (-1) = some R) (hend : R.1 = s.size) (hck : okTree R.2 = true) : Ok Try.prog E 16 [sv s] (.tp [.c (nodes R.2), zv 0]) := by
  have h := Parse_ok s
  have hpr : parseR s = some R.2 := by rw [parseR, hr]; exact if_pos ⟨hend, hck⟩
  have ev : parseV s = R.2 := by rw [parseV, if_pos hs, hpr]; rfl
  have ee : parseE s = 0 := by rw [parseE, if_pos hs, hpr]; rfl
  rw [ev, ee] at h
  exact h

end Go.Cp
end
