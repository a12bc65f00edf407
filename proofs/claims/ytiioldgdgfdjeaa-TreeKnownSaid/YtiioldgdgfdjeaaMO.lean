/-
  Tree: texts as trees of names (plain). Conditions: none.
  Tree: what the reference reads (plain). Conditions: none.
-/
import Derived.Test.YtiioldgdgfdjeaaMJ

section
set_option linter.unusedVariables false
set_option linter.unusedSimpArgs false
set_option maxHeartbeats 4000000
set_option maxRecDepth 10000
namespace Go.Cp
open Go Go.Proofs Go.Vx

/-! bytes -/
def bl (s : ByteArray) : List UInt8 := s.data.toList
theorem bl_len (s : ByteArray) : (bl s).length = s.size := Array.length_toList
theorem bl_inj {a b : ByteArray} (h : bl a = bl b) : a = b := by
  cases a with
  | mk x => cases b with
    | mk y => exact congrArg ByteArray.mk (Array.toList_inj.1 h)
theorem byteAt_bl (s : ByteArray) (p : Nat) : byteAt s p = (((bl s).getD p 0).toNat : Int) := rfl
theorem drop_byte {s : ByteArray} {p : Nat} (h : p < s.size) : (bl s).drop p = (bl s).getD p 0 :: (bl s).drop (p + 1) := by
  rw [← bl_len] at h
  rw [List.drop_eq_getElem_cons h, getD_of 0 _ p h]
theorem drop_lt {s : ByteArray} {p : Nat} {b : UInt8} {r : List UInt8} (h : (bl s).drop p = b :: r) : p < s.size := by
  rcases Nat.lt_or_ge p s.size with g | g
  · exact g
  · rw [List.drop_eq_nil_of_le (by rw [bl_len]; exact g)] at h; cases h
theorem drop_next {s : ByteArray} {p : Nat} {b : UInt8} {r : List UInt8} (h : (bl s).drop p = b :: r) : (bl s).getD p 0 = b ∧ (bl s).drop (p + 1) = r := by
  rw [drop_byte (drop_lt h)] at h
  injection h with h1 h2
  exact ⟨h1, h2⟩
theorem takeB_of {s : ByteArray} {p : Nat} {b : UInt8} {r : List UInt8} (h : (bl s).drop p = b :: r) (c : Int) : takeB s p c = decide ((b.toNat : Int) = c) := by
  rw [takeB, decide_eq_true (drop_lt h), Bool.true_and, byteAt_bl, (drop_next h).1]
theorem takeB_end {s : ByteArray} {p : Nat} (h : (bl s).drop p = []) (c : Int) : takeB s p c = false := by
  have : s.size ≤ p := by rw [← bl_len]; exact List.drop_eq_nil_iff.1 h
  rw [takeB, decide_eq_false (by omega)]; rfl
theorem takeB_yes {s : ByteArray} {p : Nat} {c : UInt8} (h : takeB s p (c.toNat : Nat) = true) : (bl s).drop p = c :: (bl s).drop (p + 1) := by
  have hlt := takeB_lt h
  rw [takeB, Bool.and_eq_true, decide_eq_true_eq, decide_eq_true_eq, byteAt_bl] at h
  rw [drop_byte hlt]
  congr 1
  exact UInt8.toNat_inj.1 (by omega)
theorem bl_extract (s : ByteArray) (p q : Nat) : bl (s.extract p q) = ((bl s).drop p).take (q - p) := by
  rw [bl, ByteArray.data_extract, Array.toList_extract]
  rfl
def Letters (x : ByteArray) : Prop := ∀ b ∈ bl x, letterB (b.toNat : Nat) = true
theorem name_drop {s : ByteArray} {p : Nat} (h : p ≤ s.size) : (bl s).drop p = bl (s.extract p (nameEnd s p)) ++ (bl s).drop (nameEnd s p) := by
  have h1 := (nameEnd_le h).1
  rw [bl_extract]
  have := (List.take_append_drop (nameEnd s p - p) ((bl s).drop p)).symm
  rw [List.drop_drop, show p + (nameEnd s p - p) = nameEnd s p by omega] at this
  exact this
theorem nameEnd_stay {s : ByteArray} {p : Nat} (h : nameEnd s p ≠ p) : p < s.size ∧ letterB (byteAt s p) = true ∧ nameEnd s p = nameEnd s (p + 1) := by
  by_cases g : p < s.size ∧ letterB (byteAt s p) = true
  · exact ⟨g.1, g.2, nameEnd_step g.1 g.2⟩
  · exact (h (nameEnd_stop g)).elim
theorem name_letters {s : ByteArray} : ∀ n p, s.size - p ≤ n → p ≤ s.size → Letters (s.extract p (nameEnd s p))
  | n, p, hn, hp => by
    by_cases e : nameEnd s p = p
    · intro b hb
      rw [bl_extract, e, Nat.sub_self] at hb
      cases hb
    · obtain ⟨h1, h2, h3⟩ := nameEnd_stay e
      cases n with
      | zero => omega
      | succ n =>
        have ih := name_letters (s := s) n (p + 1) (by omega) (by omega)
        have hle := (nameEnd_le (s := s) (p := p + 1) (by omega)).1
        intro b hb
        rw [bl_extract, h3, drop_byte h1, show nameEnd s (p + 1) - p = (nameEnd s (p + 1) - (p + 1)) + 1 by omega, List.take_succ_cons] at hb
        rcases List.mem_cons.1 hb with rfl | hb
        · exact h2
        · exact ih b (by rw [bl_extract]; exact hb)
/-- what may follow a tree -/
def Fol (r : List UInt8) : Prop := r = [] ∨ ∃ r', r = 44 :: r' ∨ r = 41 :: r'
theorem Fol.stop {s : ByteArray} {p : Nat} {r : List UInt8} (h : Fol r) (hd : (bl s).drop p = r) : nameEnd s p = p := by
  refine nameEnd_stop fun ⟨h1, h2⟩ => ?_
  rcases h with rfl | ⟨r', rfl | rfl⟩
  · rw [drop_byte h1] at hd; cases hd
  · rw [byteAt_bl, (drop_next hd).1] at h2; exact absurd h2 (by decide)
  · rw [byteAt_bl, (drop_next hd).1] at h2; exact absurd h2 (by decide)
theorem name_full {s : ByteArray} : ∀ (l : List UInt8) (p : Nat) (r : List UInt8), (∀ b ∈ l, letterB (b.toNat : Nat) = true) → (bl s).drop p = l ++ r → Fol r → nameEnd s p = p + l.length
  | [], p, r, _, hd, hr => hr.stop hd
  | b :: l, p, r, hl, hd, hr => by
    have hd : (bl s).drop p = b :: (l ++ r) := hd
    obtain ⟨h1, h2⟩ := drop_next hd
    have hlt := drop_lt hd
    rw [nameEnd_step hlt (by rw [byteAt_bl, h1]; exact hl b (List.mem_cons_self ..)), name_full l (p + 1) r (fun b hb => hl b (List.mem_cons_of_mem _ hb)) h2 hr, List.length_cons]
    omega
theorem name_at {s nm : ByteArray} {p : Nat} {r : List UInt8} (hl : Letters nm) (hd : (bl s).drop p = bl nm ++ r) (hr : Fol r) : nameEnd s p = p + nm.size ∧ s.extract p (nameEnd s p) = nm ∧ (bl s).drop (p + nm.size) = r := by
  have h1 := name_full (bl nm) p r hl hd hr
  rw [bl_len] at h1
  refine ⟨h1, bl_inj ?_, ?_⟩
  · rw [bl_extract, h1, hd, show p + nm.size - p = (bl nm).length by rw [bl_len]; omega, List.take_left]
  · rw [← bl_len, ← List.drop_drop, hd, List.drop_left]

/-! trees of names -/
inductive Fo where
  | nil
  | cons (nm : ByteArray) (kids rest : Fo)
def Fo.isNil : Fo → Bool
  | .nil => true
  | .cons _ _ _ => false
def Fo.sz : Fo → Nat
  | .nil => 0
  | .cons _ k r => 1 + k.sz + r.sz
def wrapK (k : Fo) (x : List UInt8) : List UInt8 := if k.isNil = true then [] else 40 :: (x ++ [41])
def sepR (r : Fo) (x : List UInt8) : List UInt8 := if r.isNil = true then [] else 44 :: x
def Fo.tx : Fo → List UInt8
  | .nil => []
  | .cons nm k r => wrapK k k.tx ++ (bl nm ++ sepR r r.tx)
def Fo.flat : Fo → Nat → Int → List Node
  | .nil, _, _ => []
  | .cons nm k r, n, par => ⟨par, nm⟩ :: (k.flat (n + 1) n ++ r.flat (n + 1 + k.sz) par)
def Fo.ok : Fo → Prop
  | .nil => True
  | .cons nm k r => Letters nm ∧ k.ok ∧ r.ok
def treeF (nm : ByteArray) (k : Fo) : Fo := .cons nm k .nil
abbrev okT (nm : ByteArray) (k : Fo) : Prop := Letters nm ∧ k.ok
theorem wrap_nil (x : List UInt8) : wrapK .nil x = [] := rfl
theorem sep_nil (x : List UInt8) : sepR .nil x = [] := rfl
theorem sz_tree (nm : ByteArray) (k : Fo) : (treeF nm k).sz = 1 + k.sz := rfl
theorem tx_tree (nm : ByteArray) (k : Fo) : (treeF nm k).tx = wrapK k k.tx ++ bl nm := by
  show wrapK k k.tx ++ (bl nm ++ []) = _
  rw [List.append_nil]
theorem flat_tree (nm : ByteArray) (k : Fo) (n : Nat) (par : Int) : (treeF nm k).flat n par = ⟨par, nm⟩ :: k.flat (n + 1) n := by
  show (⟨par, nm⟩ : Node) :: (k.flat (n + 1) n ++ []) = _
  rw [List.append_nil]
theorem flat_len : ∀ (F : Fo) (n : Nat) (par : Int), (F.flat n par).length = F.sz
  | .nil, _, _ => rfl
  | .cons nm k r, n, par => by
    rw [Fo.flat, List.length_cons, List.length_append, flat_len k, flat_len r, Fo.sz]; omega
theorem wrap_cons (nm : ByteArray) (k r : Fo) (x : List UInt8) : wrapK (.cons nm k r) x = 40 :: (x ++ [41]) := rfl
theorem sep_cons (nm : ByteArray) (k r : Fo) (x : List UInt8) : sepR (.cons nm k r) x = 44 :: x := rfl
theorem tx_cons (nm : ByteArray) (k r : Fo) : (Fo.cons nm k r).tx = (treeF nm k).tx ++ sepR r r.tx := by
  rw [tx_tree, Fo.tx, List.append_assoc]
theorem flat_cons (nm : ByteArray) (k r : Fo) (n : Nat) (par : Int) : (Fo.cons nm k r).flat n par = (treeF nm k).flat n par ++ r.flat (n + (treeF nm k).sz) par := by
  rw [flat_tree, Fo.flat, sz_tree, List.cons_append, show n + (1 + k.sz) = n + 1 + k.sz by omega]
theorem tx_len : ∀ F : Fo, F.sz ≤ F.tx.length + 1
  | .nil => Nat.zero_le _
  | .cons nm k r => by
    have h1 := tx_len k
    have h2 := tx_len r
    rw [Fo.tx, List.length_append, List.length_append]
    cases k with
    | nil =>
      cases r with
      | nil => simp [Fo.sz]
      | cons b k2 r2 => rw [wrap_nil, sep_cons, List.length_cons, List.length_nil]; simp only [Fo.sz] at h2 ⊢; omega
    | cons a k1 r1 =>
      cases r with
      | nil => rw [wrap_cons, sep_nil, List.length_cons, List.length_append]; simp only [Fo.sz, List.length_nil] at h1 ⊢; omega
      | cons b k2 r2 => rw [wrap_cons, sep_cons, List.length_cons, List.length_cons, List.length_append]; simp only [Fo.sz] at h1 h2 ⊢; omega
theorem tx_tree_len (nm : ByteArray) (k : Fo) : k.sz ≤ (treeF nm k).tx.length := by
  have h1 := tx_len k
  rw [tx_tree, List.length_append]
  cases k with
  | nil => exact Nat.zero_le _
  | cons a k1 r1 => rw [wrap_cons, List.length_cons, List.length_append]; omega
theorem letters40 {x : ByteArray} (h : Letters x) : (bl x).count 40 = 0 := by
  rw [List.count_eq_zero]
  intro hm
  exact absurd (h _ hm) (by decide)
theorem tx_count : ∀ F : Fo, F.ok → F.tx.count 40 ≤ F.sz
  | .nil, _ => Nat.zero_le _
  | .cons nm k r, ⟨h0, h1, h2⟩ => by
    have g1 := tx_count k h1
    have g2 := tx_count r h2
    have e1 : (wrapK k k.tx).count 40 ≤ 1 + k.sz := by
      cases k with
      | nil => exact Nat.zero_le _
      | cons a k1 r1 =>
        rw [wrap_cons, List.count_cons, List.count_append]
        have : List.count 40 ([41] : List UInt8) = 0 := by decide
        rw [this]
        simp; omega
    have e2 : (sepR r r.tx).count 40 ≤ r.sz := by
      cases r with
      | nil => exact Nat.zero_le _
      | cons a k1 r1 => rw [sep_cons, List.count_cons]; simp; omega
    rw [Fo.tx, List.count_append, List.count_append, letters40 h0, Fo.sz]
    omega
theorem tx_tree_count {nm : ByteArray} {k : Fo} (h : okT nm k) : (treeF nm k).tx.count 40 ≤ k.sz := by
  obtain ⟨h0, h1⟩ := h
  rw [tx_tree, List.count_append, letters40 h0]
  cases k with
  | nil => exact Nat.zero_le _
  | cons a k1 r1 =>
    obtain ⟨a0, a1, a2⟩ := h1
    have g1 := tx_tree_count (nm := a) (k := k1) ⟨a0, a1⟩
    have g2 := tx_count r1 a2
    have g3 : (sepR r1 r1.tx).count 40 ≤ r1.sz := by
      cases r1 with
      | nil => exact Nat.zero_le _
      | cons b k2 r2 => rw [sep_cons, List.count_cons]; simp; omega
    rw [wrap_cons, List.count_cons, List.count_append, tx_cons, List.count_append]
    have : List.count 40 ([41] : List UInt8) = 0 := by decide
    rw [this, Fo.sz]
    simp; omega

/-! the program's reader -/
theorem set_mid (ns l : List Node) (c d : Node) : (ns ++ c :: l).set ns.length d = ns ++ d :: l := by
  rw [List.set_append_right _ _ (Nat.le_refl _), Nat.sub_self]; rfl
theorem getD_mid (ns l : List Node) (c : Node) : (ns ++ c :: l).getD ns.length Node.zero = c := by
  rw [List.getD, List.getElem?_append_right (Nat.le_refl _), Nat.sub_self]; rfl
theorem setName_mid (ns l : List Node) (par : Int) (x y : ByteArray) : setName (ns ++ ⟨par, x⟩ :: l) ns.length y = ns ++ ⟨par, y⟩ :: l := by
  rw [setName, getD_mid, set_mid]
theorem rd_sound {s : ByteArray} (hs : s.size ≤ 65536) : ∀ f l p ns x R, rdG s f l p ns x = some R → p ≤ s.size → ns.length ≤ 63 →
    if l = true then ∃ F : Fo, F.ok ∧ R.2 = ns ++ F.flat ns.length x ∧ (bl s).drop p = sepR F F.tx ++ 41 :: (bl s).drop R.1
    else ∃ nm k, okT nm k ∧ R.2 = ns ++ (treeF nm k).flat ns.length x ∧ (bl s).drop p = (treeF nm k).tx ++ (bl s).drop R.1
  | 0, l, p, ns, x, R, h, _, _ => by simp [rdG] at h
  | f + 1, true, p, ns, x, R, h, hp, hn => by
    rw [if_pos rfl]
    rw [rdG] at h
    split at h
    · rename_i ht
      have hlt := takeB_lt ht
      have hd := takeB_yes (c := 44) ht
      obtain ⟨q, h1, h2⟩ := Option.bind_eq_some_iff.1 h
      have g1 := rdG_ok hs f false (p + 1) ns x q h1 (by omega) hn
      have i1 := rd_sound hs f false (p + 1) ns x q h1 (by omega) hn
      have i2 := rd_sound hs f true q.1 q.2 x R h2 g1.hi g1.le63
      rw [if_neg (by decide)] at i1
      rw [if_pos rfl] at i2
      obtain ⟨nm, k, o1, e1, t1⟩ := i1
      obtain ⟨F, o2, e2, t2⟩ := i2
      refine ⟨.cons nm k F, ⟨o1.1, o1.2, o2⟩, ?_, ?_⟩
      · rw [e2, e1, flat_cons, List.length_append, flat_len, List.append_assoc]
      · rw [hd, t1, t2, sep_cons, tx_cons]
        simp
    · split at h
      · rename_i ht
        have hd := takeB_yes (c := 41) ht
        injection h with h
        subst h
        exact ⟨.nil, trivial, by simp [Fo.flat], hd⟩
      · cases h
  | f + 1, false, p, ns, x, R, h, hp, hn => by
    rw [if_neg (by decide)]
    rw [rdG] at h
    split at h
    · cases h
    · rename_i h63
      obtain ⟨q, h1, rfl⟩ := Option.map_eq_some_iff.1 h
      have hlen1 : (ns ++ [(⟨x, emptyS⟩ : Node)]).length = ns.length + 1 := by simp
      split at h1
      · rename_i ht
        have hlt := takeB_lt ht
        have hd := takeB_yes (c := 40) ht
        obtain ⟨q1, h2, h3⟩ := Option.bind_eq_some_iff.1 h1
        have g1 := rdG_ok hs f false (p + 1) _ _ q1 h2 (by omega) (by simp; omega)
        have g2 := rdG_ok hs f true q1.1 q1.2 _ q h3 g1.hi g1.le63
        have i1 := rd_sound hs f false (p + 1) _ _ q1 h2 (by omega) (by simp; omega)
        have i2 := rd_sound hs f true q1.1 q1.2 _ q h3 g1.hi g1.le63
        rw [if_neg (by decide)] at i1
        rw [if_pos rfl] at i2
        obtain ⟨nm, k, o1, e1, t1⟩ := i1
        obtain ⟨F, o2, e2, t2⟩ := i2
        have hq2 : q.2 = ns ++ ⟨x, emptyS⟩ :: (Fo.cons nm k F).flat (ns.length + 1) ns.length := by
          rw [e2, e1, flat_cons, hlen1, List.length_append, hlen1, flat_len]
          simp
        refine ⟨s.extract q.1 (nameEnd s q.1), .cons nm k F, ⟨name_letters _ _ (Nat.le_refl _) g2.hi, o1.1, o1.2, o2⟩, ?_, ?_⟩
        · simp only [nameHere]
          rw [hq2, setName_mid, flat_tree]
        · simp only [nameHere]
          rw [tx_tree, List.append_assoc, ← name_drop g2.hi, hd, t1, t2, wrap_cons, tx_cons]
          simp
      · injection h1 with h1
        subst h1
        refine ⟨s.extract p (nameEnd s p), .nil, ⟨name_letters _ _ (Nat.le_refl _) hp, trivial⟩, ?_, ?_⟩
        · simp only [nameHere]
          rw [setName_mid, flat_tree]; rfl
        · simp only [nameHere]
          rw [tx_tree, List.append_assoc, ← name_drop hp]; rfl

/-- a tree's text is read -/
def FullA (s : ByteArray) (F : Fo) : Prop := F.ok → ∀ f p ns (v : Int) r, (bl s).drop p = sepR F F.tx ++ 41 :: r → ns.length + F.sz ≤ 63 → 2 * F.sz + 1 ≤ f → rdG s f true p ns v = some (p + (sepR F F.tx).length + 1, ns ++ F.flat ns.length v)
def FullT (s : ByteArray) (k : Fo) : Prop := ∀ nm, okT nm k → ∀ f p ns (par : Int) r, (bl s).drop p = (treeF nm k).tx ++ r → Fol r → ns.length + 1 + k.sz ≤ 63 → 2 * k.sz + 2 ≤ f → rdG s f false p ns par = some (p + (treeF nm k).tx.length, ns ++ (treeF nm k).flat ns.length par)
theorem fol_sep (F : Fo) (x r : List UInt8) : Fol (sepR F x ++ 41 :: r) := by
  cases F with
  | nil => exact .inr ⟨r, .inr rfl⟩
  | cons a k rr => exact .inr ⟨x ++ 41 :: r, .inl rfl⟩
theorem drop_add {s : ByteArray} {p : Nat} {a b : List UInt8} (h : (bl s).drop p = a ++ b) : (bl s).drop (p + a.length) = b := by
  rw [← List.drop_drop, h, List.drop_left]
theorem rd_full (s : ByteArray) : ∀ F : Fo, FullA s F ∧ FullT s F
  | .nil => by
    refine ⟨fun _ f p ns v r hd hn hf => ?_, fun nm hok f p ns par r hd hr hn hf => ?_⟩
    · cases f with
      | zero => omega
      | succ f =>
        have hd : (bl s).drop p = 41 :: r := hd
        rw [rdG, takeB_of hd, takeB_of hd, if_neg (by decide), if_pos (by decide)]
        simp [sepR, Fo.isNil, Fo.flat]
    · cases f with
      | zero => omega
      | succ f =>
        rw [tx_tree] at hd
        have hd : (bl s).drop p = bl nm ++ r := hd
        obtain ⟨h1, h2, h3⟩ := name_at hok.1 hd hr
        have h40 : takeB s p 40 = false := by
          cases hx : (bl s).drop p with
          | nil => exact takeB_end hx _
          | cons b t =>
            rw [takeB_of hx]
            refine decide_eq_false fun e => ?_
            rw [hx] at hd
            cases hb : bl nm with
            | nil =>
              rw [hb] at hd
              have hd : b :: t = r := hd
              rw [← hd] at hr
              rcases hr with h | ⟨r', h | h⟩
              · cases h
              · injection h with h _; subst h; exact absurd e (by decide)
              · injection h with h _; subst h; exact absurd e (by decide)
            | cons b2 t2 =>
              rw [hb] at hd
              injection hd with hd _
              subst hd
              have := hok.1 b (by rw [hb]; exact List.mem_cons_self ..)
              rw [show ((b.toNat : Nat) : Int) = 40 from e] at this
              exact absurd this (by decide)
        rw [rdG, if_neg (by omega), h40, if_neg (by decide)]
        simp only [Option.map_some, nameHere, Option.some.injEq]
        rw [setName_mid, flat_tree, tx_tree, h2, h1]
        show _ = (p + (bl nm).length, _)
        rw [bl_len]; rfl
  | .cons a k r0 => by
    obtain ⟨ak, tk⟩ := rd_full s k
    obtain ⟨ar, tr⟩ := rd_full s r0
    refine ⟨fun hok f p ns v r hd hn hf => ?_, fun nm hok f p ns par r hd hr hn hf => ?_⟩
    · cases f with
      | zero => omega
      | succ f =>
        simp only [Fo.sz] at hn hf
        rw [sep_cons, tx_cons] at hd
        have hd : (bl s).drop p = 44 :: (((treeF a k).tx ++ sepR r0 r0.tx) ++ 41 :: r) := hd
        have hd1 := (drop_next hd).2
        rw [List.append_assoc] at hd1
        have hd2 := drop_add hd1
        have e1 := tk a ⟨hok.1, hok.2.1⟩ f (p + 1) ns v _ hd1 (fol_sep ..) (by omega) (by omega)
        have e2 := ar hok.2.2 f (p + 1 + (treeF a k).tx.length) (ns ++ (treeF a k).flat ns.length v) v r hd2 (by rw [List.length_append, flat_len, sz_tree]; omega) (by omega)
        rw [rdG, takeB_of hd, if_pos (by decide), e1]
        simp only [Option.bind_some]
        rw [e2]
        congr 1
        rw [sep_cons, tx_cons, flat_cons, List.length_cons, List.length_append, List.append_assoc, List.length_append, flat_len]
        congr 1
        omega
    · cases f with
      | zero => omega
      | succ f =>
        simp only [Fo.sz] at hn hf
        rw [tx_tree, wrap_cons, tx_cons] at hd
        have hd : (bl s).drop p = 40 :: ((((treeF a k).tx ++ sepR r0 r0.tx) ++ [41]) ++ bl nm ++ r) := by rw [hd]; simp
        have hd1 := (drop_next hd).2
        have hd1 : (bl s).drop (p + 1) = (treeF a k).tx ++ (sepR r0 r0.tx ++ 41 :: (bl nm ++ r)) := by rw [hd1]; simp
        have hd2 := drop_add hd1
        have hd3 : (bl s).drop (p + 1 + (treeF a k).tx.length + (sepR r0 r0.tx).length + 1) = bl nm ++ r := (drop_next (drop_add hd2)).2
        obtain ⟨h1, h2, h3⟩ := name_at hok.1 hd3 hr
        have hok1 : okT a k := ⟨hok.2.1, hok.2.2.1⟩
        have e1 := tk a hok1 f (p + 1) (ns ++ [⟨par, emptyS⟩]) ns.length _ hd1 (fol_sep ..) (by simp; omega) (by omega)
        have e2 := ar hok.2.2.2 f (p + 1 + (treeF a k).tx.length) (ns ++ [⟨par, emptyS⟩] ++ (treeF a k).flat (ns ++ [(⟨par, emptyS⟩ : Node)]).length ns.length) ns.length _ hd2 (by rw [List.length_append, List.length_append, flat_len, sz_tree]; simp; omega) (by omega)
        rw [rdG, if_neg (by omega), takeB_of hd, if_pos (by decide), e1]
        simp only [Option.bind_some]
        rw [e2]
        simp only [Option.map_some, nameHere, Option.some.injEq]
        have hq : ns ++ [(⟨par, emptyS⟩ : Node)] ++ (treeF a k).flat (ns ++ [(⟨par, emptyS⟩ : Node)]).length ns.length ++ r0.flat (ns ++ [(⟨par, emptyS⟩ : Node)] ++ (treeF a k).flat (ns ++ [(⟨par, emptyS⟩ : Node)]).length ns.length).length ns.length = ns ++ ⟨par, emptyS⟩ :: (Fo.cons a k r0).flat (ns.length + 1) ns.length := by
          have hl1 : (ns ++ [(⟨par, emptyS⟩ : Node)]).length = ns.length + 1 := by simp
          rw [flat_cons, hl1, List.length_append, hl1, flat_len]
          simp
        rw [hq, setName_mid, h2, h1, flat_tree, tx_tree nm, wrap_cons, tx_cons]
        congr 1
        simp [bl_len]
        omega

end Go.Cp
end

section
set_option linter.unusedVariables false
set_option linter.unusedSimpArgs false
set_option maxHeartbeats 4000000
set_option maxRecDepth 10000
namespace Go.Cp
open Go Go.Proofs Go.Vx

def shiftN (k : Nat) (c : Node) : Node := ⟨if c.parent < 0 then 0 else c.parent + 1 + (k : Int), c.name⟩
def nameR (s : ByteArray) (b : List Node) (q : Nat) : List Node × Nat := (⟨-1, s.extract q (nameEnd s q)⟩ :: b, nameEnd s q)
/-- a node (false) or the rest of a list (true): p is the place of '(' or ',' -/
def rrG (s : ByteArray) : Nat → Bool → Nat → List Node → Option (List Node × Nat)
  | 0, _, _, _ => none
  | f + 1, false, p, _ => if takeB s p 40 = true then (rrG s f true p []).map fun x => nameR s x.1 x.2 else some (nameR s [] p)
  | f + 1, true, p, b => (rrG s f false (p + 1) []).bind fun x =>
    if takeB s x.2 44 = true ∨ takeB s x.2 41 = true then
      (if 63 < (b ++ x.1.map (shiftN b.length)).length then none else if takeB s x.2 41 = true then some (b ++ x.1.map (shiftN b.length), x.2 + 1) else rrG s f true x.2 (b ++ x.1.map (shiftN b.length)))
    else none
theorem nEnd_ge (s : ByteArray) : ∀ f p, p ≤ nEnd s f p
  | 0, p => Nat.le_refl _
  | f + 1, p => by
    rw [nEnd]
    split
    · have := nEnd_ge s f (p + 1); omega
    · exact Nat.le_refl _
theorem nameEnd_ge {s : ByteArray} (p : Nat) : p ≤ nameEnd s p := nEnd_ge s _ p
theorem rr_ge {s : ByteArray} : ∀ f l p b x, rrG s f l p b = some x → p ≤ x.2
  | 0, l, p, b, x, h => by simp [rrG] at h
  | f + 1, false, p, b, x, h => by
    rw [rrG] at h
    split at h
    · obtain ⟨y, h1, rfl⟩ := Option.map_eq_some_iff.1 h
      have g := rr_ge f true p [] y h1
      have := nameEnd_ge (s := s) y.2
      simp only [nameR]
      omega
    · injection h with h
      subst h
      exact nameEnd_ge p
  | f + 1, true, p, b, x, h => by
    rw [rrG] at h
    obtain ⟨y, h1, h2⟩ := Option.bind_eq_some_iff.1 h
    have g := rr_ge f false (p + 1) [] y h1
    split at h2
    · split at h2
      · cases h2
      · split at h2
        · injection h2 with h2
          subst h2
          show p ≤ y.2 + 1
          omega
        · have g2 := rr_ge f true y.2 _ x h2
          omega
    · cases h2
theorem rr_le {s : ByteArray} : ∀ f l p b x, rrG s f l p b = some x → p ≤ s.size → p ≤ x.2 ∧ x.2 ≤ s.size
  | 0, l, p, b, x, h, _ => by simp [rrG] at h
  | f + 1, false, p, b, x, h, hp => by
    rw [rrG] at h
    split at h
    · obtain ⟨y, h1, rfl⟩ := Option.map_eq_some_iff.1 h
      have g := rr_le f true p [] y h1 hp
      have := nameEnd_le g.2
      simp only [nameR]
      omega
    · injection h with h
      subst h
      exact nameEnd_le hp
  | f + 1, true, p, b, x, h, hp => by
    rw [rrG] at h
    obtain ⟨y, h1, h2⟩ := Option.bind_eq_some_iff.1 h
    have hp1 : p + 1 ≤ s.size ∨ s.size < p + 1 := by omega
    split at h2
    · rename_i ht
      have hlt : y.2 < s.size := ht.elim takeB_lt takeB_lt
      rcases hp1 with hp1 | hp1
      · have g := rr_le f false (p + 1) [] y h1 hp1
        split at h2
        · cases h2
        · split at h2
          · injection h2 with h2
            subst h2
            show p ≤ y.2 + 1 ∧ y.2 + 1 ≤ s.size
            omega
          · have g2 := rr_le f true y.2 _ x h2 (by omega)
            omega
      · have g := rr_ge f false (p + 1) [] y h1
        omega
    · cases h2

theorem flat_shift : ∀ (F : Fo) (n d : Nat) (par : Nat), (F.flat n par).map (fun c => (⟨c.parent + d, c.name⟩ : Node)) = F.flat (n + d) (par + d : Nat)
  | .nil, _, _, _ => rfl
  | .cons nm k r, n, d, par => by
    have h1 := flat_shift k (n + 1) d n
    have h2 := flat_shift r (n + 1 + k.sz) d par
    simp only [Fo.flat, List.map_cons, List.map_append, h1, h2]
    rw [show n + 1 + d = n + d + 1 by omega, show n + 1 + k.sz + d = n + d + 1 + k.sz by omega]
    rfl
theorem flat_par : ∀ (F : Fo) (n : Nat) (par : Int), ∀ c ∈ F.flat n par, c.parent = par ∨ ((n : Int) ≤ c.parent ∧ c.parent < (n + F.sz : Nat))
  | .nil, _, _, c, h => by cases h
  | .cons nm k r, n, par, c, h => by
    rw [Fo.flat] at h
    simp only [Fo.sz]
    rcases List.mem_cons.1 h with rfl | h
    · exact .inl rfl
    · rcases List.mem_append.1 h with h | h
      · rcases flat_par k (n + 1) n c h with e | e
        · right; omega
        · right; omega
      · rcases flat_par r (n + 1 + k.sz) par c h with e | e
        · exact .inl e
        · right; omega
theorem shift_tree (nm : ByteArray) (k : Fo) (d : Nat) : ((treeF nm k).flat 0 (-1)).map (shiftN d) = (treeF nm k).flat (1 + d) 0 := by
  rw [flat_tree, flat_tree, List.map_cons]
  congr 1
  have h := flat_shift k 1 (1 + d) 0
  have e : (k.flat (0 + 1) ((0 : Nat) : Int)).map (shiftN d) = (k.flat 1 ((0 : Nat) : Int)).map (fun c => (⟨c.parent + (1 + d : Nat), c.name⟩ : Node)) := by
    refine List.map_congr_left fun c hc => ?_
    have hge : 0 ≤ c.parent := by
      rcases flat_par k 1 ((0 : Nat) : Int) c hc with e | e <;> omega
    simp only [shiftN]
    rw [if_neg (by omega)]
    congr 1
    omega
  rw [e, h, show 1 + (1 + d) = 1 + d + 1 by omega, show 0 + (1 + d) = 1 + d by omega]
theorem rr_sound {s : ByteArray} : ∀ f l p b x, rrG s f l p b = some x → p ≤ s.size →
    if l = true then p < s.size → ∃ nm k F, okT nm k ∧ F.ok ∧ x.1 = b ++ (Fo.cons nm k F).flat (1 + b.length) 0 ∧ (bl s).drop (p + 1) = (Fo.cons nm k F).tx ++ 41 :: (bl s).drop x.2
    else ∃ nm k, okT nm k ∧ x.1 = (treeF nm k).flat 0 (-1) ∧ (bl s).drop p = (treeF nm k).tx ++ (bl s).drop x.2
  | 0, l, p, b, x, h, _ => by simp [rrG] at h
  | f + 1, false, p, b, x, h, hp => by
    rw [if_neg (by decide)]
    rw [rrG] at h
    split at h
    · rename_i ht
      obtain ⟨y, h1, rfl⟩ := Option.map_eq_some_iff.1 h
      have g := rr_le f true p [] y h1 hp
      have hd := takeB_yes (c := 40) ht
      have i1 := rr_sound f true p [] y h1 hp
      rw [if_pos rfl] at i1
      obtain ⟨nm, k, F, o1, o2, e1, t1⟩ := i1 (takeB_lt ht)
      refine ⟨s.extract y.2 (nameEnd s y.2), .cons nm k F, ⟨name_letters _ _ (Nat.le_refl _) g.2, o1.1, o1.2, o2⟩, ?_, ?_⟩
      · simp only [nameR]
        rw [e1, flat_tree, List.nil_append]
        rfl
      · simp only [nameR]
        rw [tx_tree, List.append_assoc, ← name_drop g.2, hd, t1, wrap_cons]
        simp
    · injection h with h
      subst h
      refine ⟨s.extract p (nameEnd s p), .nil, ⟨name_letters _ _ (Nat.le_refl _) hp, trivial⟩, ?_, ?_⟩
      · simp only [nameR]
        rw [flat_tree]; rfl
      · simp only [nameR]
        rw [tx_tree, List.append_assoc, ← name_drop hp]; rfl
  | f + 1, true, p, b, x, h, hp => by
    rw [if_pos rfl]
    intro hlt
    rw [rrG] at h
    obtain ⟨y, h1, h2⟩ := Option.bind_eq_some_iff.1 h
    have g := rr_le f false (p + 1) [] y h1 (by omega)
    have i1 := rr_sound f false (p + 1) [] y h1 (by omega)
    rw [if_neg (by decide)] at i1
    obtain ⟨nm, k, o1, e1, t1⟩ := i1
    have hsh : y.1.map (shiftN b.length) = (treeF nm k).flat (1 + b.length) 0 := by rw [e1, shift_tree]
    rw [hsh] at h2
    split at h2
    · rename_i ht
      split at h2
      · cases h2
      · split at h2
        · rename_i ht2
          injection h2 with h2
          subst h2
          have hd := takeB_yes (c := 41) ht2
          refine ⟨nm, k, .nil, o1, trivial, ?_, ?_⟩
          · rw [flat_cons]
            show _ = b ++ (_ ++ [])
            rw [List.append_nil]
          · rw [t1, hd, tx_cons, sep_nil, List.append_nil]
        · rename_i ht2
          have ht3 : takeB s y.2 44 = true := ht.resolve_right ht2
          have hd := takeB_yes (c := 44) ht3
          have i2 := rr_sound f true y.2 _ x h2 g.2
          rw [if_pos rfl] at i2
          obtain ⟨nm2, k2, F2, o2, o3, e2, t2⟩ := i2 (takeB_lt ht3)
          refine ⟨nm, k, .cons nm2 k2 F2, o1, ⟨o2.1, o2.2, o3⟩, ?_, ?_⟩
          · rw [e2, flat_cons nm k, List.append_assoc, List.length_append, flat_len, show 1 + (b.length + (treeF nm k).sz) = 1 + b.length + (treeF nm k).sz by omega]
          · rw [t1, hd, t2, tx_cons nm k, sep_cons]
            simp
    · cases h2

/-- a tree's text is read by the reference -/
def RFull (s : ByteArray) (k : Fo) : Prop := (∀ nm, okT nm k → ∀ f p r, (bl s).drop p = (treeF nm k).tx ++ r → Fol r → k.sz ≤ 63 → 2 * k.sz + 1 ≤ f → ∀ b, rrG s f false p b = some ((treeF nm k).flat 0 (-1), p + (treeF nm k).tx.length)) ∧
  (∀ nm k1, okT nm k1 → k.ok → (∀ f p r, (bl s).drop p = (treeF nm k1).tx ++ r → Fol r → k1.sz ≤ 63 → 2 * k1.sz + 1 ≤ f → ∀ b, rrG s f false p b = some ((treeF nm k1).flat 0 (-1), p + (treeF nm k1).tx.length)) →
    ∀ f p b r, (bl s).drop (p + 1) = (Fo.cons nm k1 k).tx ++ 41 :: r → b.length + (Fo.cons nm k1 k).sz ≤ 63 → 2 * (Fo.cons nm k1 k).sz ≤ f → rrG s f true p b = some (b ++ (Fo.cons nm k1 k).flat (1 + b.length) 0, p + 1 + (Fo.cons nm k1 k).tx.length + 1))
theorem nofirst {s nm : ByteArray} {p : Nat} {r : List UInt8} (hl : Letters nm) (hd : (bl s).drop p = bl nm ++ r) (hr : Fol r) : takeB s p 40 = false := by
  cases hx : (bl s).drop p with
  | nil => exact takeB_end hx _
  | cons b t =>
    rw [takeB_of hx]
    refine decide_eq_false fun e => ?_
    rw [hx] at hd
    cases hb : bl nm with
    | nil =>
      rw [hb] at hd
      have hd : b :: t = r := hd
      rw [← hd] at hr
      rcases hr with h | ⟨r', h | h⟩
      · cases h
      · injection h with h _; subst h; exact absurd e (by decide)
      · injection h with h _; subst h; exact absurd e (by decide)
    | cons b2 t2 =>
      rw [hb] at hd
      injection hd with hd _
      subst hd
      have := hl b (by rw [hb]; exact List.mem_cons_self ..)
      rw [show ((b.toNat : Nat) : Int) = 40 from e] at this
      exact absurd this (by decide)
theorem rr_full (s : ByteArray) : ∀ F : Fo, RFull s F
  | .nil => by
    refine ⟨fun nm hok f p r hd hr hn hf b => ?_, fun nm k1 ho1 _ hT f p b r hd hn hf => ?_⟩
    · cases f with
      | zero => omega
      | succ f =>
        rw [tx_tree] at hd
        have hd : (bl s).drop p = bl nm ++ r := hd
        obtain ⟨h1, h2, h3⟩ := name_at hok.1 hd hr
        rw [rrG, nofirst hok.1 hd hr, if_neg (by decide), nameR, h2, h1, flat_tree, tx_tree]
        show _ = some (_, p + (bl nm).length)
        rw [bl_len]; rfl
    · cases f with
      | zero => simp only [Fo.sz] at hf; omega
      | succ f =>
        simp only [Fo.sz] at hn hf
        rw [tx_cons, sep_nil, List.append_nil] at hd
        have e1 := hT f (p + 1) _ hd (.inr ⟨r, .inr rfl⟩) (by omega) (by omega) []
        have hd2 := drop_add hd
        rw [rrG, e1]
        simp only [Option.bind_some]
        rw [takeB_of hd2, takeB_of hd2, if_pos (by decide), shift_tree, if_neg (by rw [List.length_append, flat_len, sz_tree]; omega), if_pos (by decide), tx_cons, sep_nil, List.append_nil, flat_cons]
        show _ = some (b ++ (_ ++ []), _)
        rw [List.append_nil]
  | .cons a k r0 => by
    obtain ⟨tk, _⟩ := rr_full s k
    obtain ⟨_, ar⟩ := rr_full s r0
    refine ⟨fun nm hok f p r hd hr hn hf b => ?_, fun nm k1 ho1 hok hT f p b r hd hn hf => ?_⟩
    · cases f with
      | zero => omega
      | succ f =>
        rw [tx_tree nm, wrap_cons] at hd
        have hd : (bl s).drop p = 40 :: (((Fo.cons a k r0).tx ++ [41]) ++ bl nm ++ r) := by rw [hd]; simp
        have hd1 := (drop_next hd).2
        have hd1 : (bl s).drop (p + 1) = (Fo.cons a k r0).tx ++ 41 :: (bl nm ++ r) := by rw [hd1]; simp
        have hd3 : (bl s).drop (p + 1 + (Fo.cons a k r0).tx.length + 1) = bl nm ++ r := (drop_next (drop_add hd1)).2
        obtain ⟨h1, h2, h3⟩ := name_at hok.1 hd3 hr
        have hoa : okT a k := ⟨hok.2.1, hok.2.2.1⟩
        have e1 := ar a k hoa hok.2.2.2 (fun f p r => tk a hoa f p r) f p [] _ hd1 (by simpa using hn) (by omega)
        rw [rrG, takeB_of hd, if_pos (by decide), e1]
        simp only [Option.map_some, nameR]
        rw [h2, h1, flat_tree nm, tx_tree nm, wrap_cons]
        congr 1
        simp [bl_len]
        omega
    · cases f with
      | zero => simp only [Fo.sz] at hf; omega
      | succ f =>
        have hn' := hn
        simp only [Fo.sz] at hn hf
        rw [tx_cons nm k1, sep_cons, List.append_assoc] at hd
        have e1 := hT f (p + 1) _ hd (.inr ⟨_, .inl rfl⟩) (by omega) (by omega) []
        have hd2 := drop_add hd
        have hd2 : (bl s).drop (p + 1 + (treeF nm k1).tx.length) = 44 :: ((Fo.cons a k r0).tx ++ 41 :: r) := hd2
        have hoa : okT a k := ⟨hok.1, hok.2.1⟩
        have e2 := ar a k hoa hok.2.2 (fun f p r => tk a hoa f p r) f (p + 1 + (treeF nm k1).tx.length) (b ++ (treeF nm k1).flat (1 + b.length) 0) r (drop_next hd2).2 (by rw [List.length_append, flat_len, sz_tree]; simp only [Fo.sz]; omega) (by simp only [Fo.sz]; omega)
        rw [rrG, e1]
        simp only [Option.bind_some]
        rw [takeB_of hd2, takeB_of hd2, if_pos (by decide), shift_tree, if_neg (by rw [List.length_append, flat_len, sz_tree]; omega), if_neg (by decide), e2]
        congr 1
        have hl : 1 + (b ++ (treeF nm k1).flat (1 + b.length) 0).length = 1 + b.length + (treeF nm k1).sz := by rw [List.length_append, flat_len]; omega
        rw [hl, tx_cons nm k1, sep_cons, flat_cons nm k1, List.append_assoc]
        congr 1
        simp
        omega

/-- what the reference makes of a text -/
def cnt40 (s : ByteArray) : Nat := (bl s).count 40
def rparseR (s : ByteArray) : Option (List Node) := if 63 < cnt40 s then none else match rrG s (2 * s.size + 2) false 0 [] with
  | some x => if x.2 = s.size ∧ okTree x.1 = true then some x.1 else none
  | none => none
theorem drop_all {s : ByteArray} : (bl s).drop s.size = [] := List.drop_eq_nil_of_le (by rw [bl_len]; exact Nat.le_refl _)
/-- a text that is read is that of a tree of names -/
theorem parse_tree {s : ByteArray} (hs : s.size ≤ 65536) {t : List Node} (h : parseR s = some t) : okTree t = true ∧ ∃ nm k, okT nm k ∧ t = (treeF nm k).flat 0 (-1) ∧ bl s = (treeF nm k).tx := by
  unfold parseR at h
  split at h
  · rename_i R hR
    split at h
    · rename_i hh
      injection h with h
      subst h
      have i1 := rd_sound hs _ false 0 [] (-1) R hR (Nat.zero_le _) (Nat.zero_le _)
      rw [if_neg (by decide)] at i1
      obtain ⟨nm, k, o, e, t1⟩ := i1
      refine ⟨hh.2, nm, k, o, e, ?_⟩
      rw [hh.1, drop_all, List.append_nil] at t1
      exact t1
    · cases h
  · cases h
theorem parse_of {s nm : ByteArray} {k : Fo} (hok : okT nm k) (ht : okTree ((treeF nm k).flat 0 (-1)) = true) (hb : bl s = (treeF nm k).tx) : parseR s = some ((treeF nm k).flat 0 (-1)) := by
  have h63 := (okTree_len ht).2
  rw [flat_len, sz_tree] at h63
  have hsz := tx_tree_len nm k
  rw [← hb, bl_len] at hsz
  have e := (rd_full s k).2 nm hok (2 * s.size + 2) 0 [] (-1) [] (by rw [List.append_nil]; exact hb) (.inl rfl) (by simpa using h63) (by omega)
  rw [parseR, e]
  have : 0 + (treeF nm k).tx.length = s.size := by rw [← hb, bl_len]; omega
  exact if_pos ⟨this, ht⟩
theorem parses_same {s : ByteArray} (hs : s.size ≤ 65536) : rparseR s = parseR s := by
  cases hp : parseR s with
  | some t =>
    obtain ⟨ht, nm, k, hok, rfl, hb⟩ := parse_tree hs hp
    have h63 := (okTree_len ht).2
    rw [flat_len, sz_tree] at h63
    have hsz := tx_tree_len nm k
    rw [← hb, bl_len] at hsz
    have hc := tx_tree_count hok
    rw [← hb] at hc
    have e := (rr_full s k).1 nm hok (2 * s.size + 2) 0 [] (by rw [List.append_nil]; exact hb) (.inl rfl) (by omega) (by omega) []
    rw [rparseR, if_neg (by show ¬ 63 < (bl s).count 40; omega), e]
    have : 0 + (treeF nm k).tx.length = s.size := by rw [← hb, bl_len]; omega
    exact if_pos ⟨this, ht⟩
  | none =>
    unfold rparseR
    split
    · rfl
    · split
      · rename_i x hx
        split
        · rename_i hh
          have i1 := rr_sound _ false 0 [] x hx (Nat.zero_le _)
          rw [if_neg (by decide)] at i1
          obtain ⟨nm, k, o, e, t1⟩ := i1
          rw [hh.1, drop_all, List.append_nil] at t1
          have := parse_of o (by rw [← e]; exact hh.2) t1
          rw [hp] at this; cases this
        · rfl
      · rfl

end Go.Cp
end
