/-
  Tree: what is written is read, and what is read is written (plain). Conditions: none.
-/
import Derived.Test.YtiioldgdgfdjeaaMK
import Derived.Test.YtiioldgdgfdjeaaMO

section
set_option linter.unusedVariables false
set_option linter.unusedSimpArgs false
set_option maxHeartbeats 4000000
set_option maxRecDepth 10000
namespace Go.Cp
open Go Go.Proofs Go.Vx

/-! the tree of names of a tree -/
def foL (g : Nat → Fo) (t : List Node) : List Int → Fo
  | [] => .nil
  | c :: l => .cons (nameOf t c.toNat) (g c.toNat) (foL g t l)
def foV (t : List Node) : Nat → Nat → Fo
  | 0, _ => .nil
  | f + 1, v => foL (foV t f) t (kids t v)
def foT (t : List Node) : Fo := foV t t.length 0
theorem bl_append (a b : ByteArray) : bl (a ++ b) = bl a ++ bl b := by
  simp [bl]
theorem bl_join (f : Nat → ByteArray) (l : List Int) : ∀ k, k ≤ l.length → bl (joinTo f l k) = match l.take k with
    | [] => []
    | c :: r => 40 :: (bl (f c.toNat) ++ r.flatMap fun d => 44 :: bl (f d.toNat))
  | 0, _ => rfl
  | k + 1, h => by
    have ih := bl_join f l k (by omega)
    have hk : k < l.length := by omega
    rw [joinTo, bl_append, bl_append, ih, List.take_add_one, List.getElem?_eq_getElem hk, getD_of 0 l k hk]
    cases hl : l.take k with
    | nil =>
      have h0 : k = 0 := by
        have := congrArg List.length hl
        rw [List.length_take, List.length_nil] at this
        omega
      subst h0
      simp [bl]
    | cons c r =>
      have h0 : k ≠ 0 := fun e => by subst e; simp at hl
      rw [if_neg h0]
      simp [bl]
theorem tx_foL (g : Nat → Fo) (t : List Node) (f : Nat → ByteArray) : ∀ (c : Int) (r : List Int), (∀ d ∈ c :: r, bl (f d.toNat) = (treeF (nameOf t d.toNat) (g d.toNat)).tx) → (foL g t (c :: r)).tx = bl (f c.toNat) ++ r.flatMap fun d => 44 :: bl (f d.toNat)
  | c, [], h => by
    rw [h c (List.mem_cons_self ..), foL, tx_cons]
    simp [foL, sep_nil]
  | c, d :: r, h => by
    have ih := tx_foL g t f d r fun x hx => h x (List.mem_cons_of_mem _ hx)
    rw [h c (List.mem_cons_self ..), foL, tx_cons]
    have e : sepR (foL g t (d :: r)) (foL g t (d :: r)).tx = 44 :: (foL g t (d :: r)).tx := rfl
    rw [e, ih, List.flatMap_cons, List.cons_append]
theorem text_fo {t : List Node} (ht : okTree t = true) : ∀ n v, v < t.length → t.length ≤ v + n → bl (textN t n v) = (treeF (nameOf t v) (foV t n v)).tx
  | 0, v, h1, h2 => by omega
  | n + 1, v, h1, h2 => by
    have hk : ∀ d ∈ kids t v, bl (textN t n d.toNat) = (treeF (nameOf t d.toNat) (foV t n d.toNat)).tx := fun d hd => by
      obtain ⟨c, rfl, hc, hp⟩ := kid_at hd
      have := (kid_gt ht hc hp).1
      rw [Int.toNat_natCast]
      exact text_fo ht n c hc (by omega)
    rw [textN, bl_append, bl_append, bl_join _ _ _ (Nat.le_refl _), List.take_length, tx_tree, foV]
    cases hl : kids t v with
    | nil =>
      rw [if_pos rfl]
      rfl
    | cons c r =>
      rw [hl] at hk
      rw [if_neg (by simp)]
      have e : wrapK (foL (foV t n) t (c :: r)) (foL (foV t n) t (c :: r)).tx = 40 :: ((foL (foV t n) t (c :: r)).tx ++ [41]) := rfl
      rw [e, tx_foL _ _ _ c r hk]
      simp [bl]
theorem textOf_fo {t : List Node} (ht : okTree t = true) : bl (textOf t 0) = (treeF (nameOf t 0) (foT t)).tx := text_fo ht _ 0 (okTree_len ht).1 (by omega)

/-! a list that is a tree of names inOrd out: its children -/
def kin : List Node → Nat → Int → List Int
  | [], _, _ => []
  | c :: L, n, v => if c.parent = v then (n : Int) :: kin L (n + 1) v else kin L (n + 1) v
theorem kin_all (t : List Node) (v : Int) : ∀ (L P : List Node), t = P ++ L → kidsTo t v t.length = kidsTo t v P.length ++ kin L P.length v
  | [], P, h => by
    rw [List.append_nil] at h
    rw [kin, List.append_nil, ← h]
  | c :: L, P, h => by
    have ih := kin_all t v L (P ++ [c]) (by rw [h]; simp)
    have hc : parOf t P.length = c.parent := by rw [parOf, h, getD_mid]
    rw [ih, List.length_append, List.length_singleton, kidsTo_succ, hc, kin]
    split
    · simp
    · rfl
theorem kids_kin (t : List Node) (v : Int) : kids t v = kin t 0 v := by
  have := kin_all t v t [] rfl
  exact this
theorem kin_append (v : Int) : ∀ (L M : List Node) (n : Nat), kin (L ++ M) n v = kin L n v ++ kin M (n + L.length) v
  | [], M, n => rfl
  | c :: L, M, n => by
    rw [List.cons_append, kin, kin, kin_append v L M (n + 1), List.length_cons, show n + 1 + L.length = n + (L.length + 1) by omega]
    split <;> rfl
theorem kin_none {v : Int} : ∀ {L : List Node} {n : Nat}, (∀ c ∈ L, c.parent ≠ v) → kin L n v = []
  | [], _, _ => rfl
  | c :: L, n, h => by
    rw [kin, if_neg (h c (List.mem_cons_self ..))]
    exact kin_none fun d hd => h d (List.mem_cons_of_mem _ hd)
def rootsF : Fo → Nat → List Int
  | .nil, _ => []
  | .cons _ k r, n => (n : Int) :: rootsF r (n + 1 + k.sz)
theorem kin_flat : ∀ (F : Fo) (m : Nat) (par : Int), par < (m : Int) → kin (F.flat m par) m par = rootsF F m
  | .nil, _, _, _ => rfl
  | .cons nm k r, m, par, h => by
    rw [Fo.flat, kin, if_pos rfl, kin_append, flat_len, kin_none, kin_flat r (m + 1 + k.sz) par (by omega), rootsF]
    · rfl
    · intro c hc
      rcases flat_par _ _ _ c hc with e | e <;> omega
theorem kids_node {U A B : List Node} {m : Nat} {par : Int} {nm : ByteArray} {k r : Fo} (hU : U = A ++ (Fo.cons nm k r).flat m par ++ B) (hA : A.length = m) (h1 : ∀ c ∈ A, c.parent < (m : Int)) (h2 : ∀ c ∈ B, c.parent < (m : Int) ∨ ((m + (Fo.cons nm k r).sz : Nat) : Int) ≤ c.parent) (hp : par < (m : Int)) :
    kids U m = rootsF k (m + 1) := by
  rw [kids_kin, hU, kin_append, kin_append, hA, Nat.zero_add]
  rw [kin_none (fun c hc => by have := h1 c hc; omega), kin_none (L := B) (fun c hc => by
    rcases h2 c hc with e | e
    · omega
    · simp only [Fo.sz] at e; omega), List.append_nil, List.nil_append, Fo.flat, kin, if_neg (by show par ≠ (m : Int); omega), kin_append, kin_flat k (m + 1) m (by omega), kin_none, List.append_nil]
  intro c hc
  rcases flat_par _ _ _ c hc with e | e <;> omega
theorem fo_flat : ∀ (F : Fo) (U A B : List Node) (m : Nat) (par : Int) (f : Nat), U = A ++ F.flat m par ++ B → A.length = m → (∀ c ∈ A, c.parent < (m : Int)) → (∀ c ∈ B, c.parent < (m : Int) ∨ ((m + F.sz : Nat) : Int) ≤ c.parent) → par < (m : Int) → F.sz ≤ f →
    foL (foV U f) U (rootsF F m) = F
  | .nil, _, _, _, _, _, _, _, _, _, _, _, _ => rfl
  | .cons nm k r, U, A, B, m, par, f, hU, hA, h1, h2, hp, hf => by
    simp only [Fo.sz] at hf h2
    cases f with
    | zero => omega
    | succ f =>
      have hk := kids_node hU hA h1 (by simp only [Fo.sz]; exact h2) hp
      have hnm : nameOf U m = nm := by
        rw [nameOf, hU, Fo.flat, ← hA, List.append_assoc, List.cons_append, getD_mid]
      rw [rootsF, foL, Int.toNat_natCast, hnm, foV, hk]
      rw [fo_flat k U (A ++ [⟨par, nm⟩]) (r.flat (m + 1 + k.sz) par ++ B) (m + 1) m f (by rw [hU, Fo.flat]; simp) (by simp [hA]) (fun c hc => by
        rcases List.mem_append.1 hc with hc | hc
        · have := h1 c hc; omega
        · rw [List.mem_singleton.1 hc]; show par < _; omega) (fun c hc => by
        rcases List.mem_append.1 hc with hc | hc
        · rcases flat_par _ _ _ c hc with e | e <;> omega
        · rcases h2 c hc with e | e <;> omega) (by omega) (by omega)]
      rw [fo_flat r U (A ++ ⟨par, nm⟩ :: k.flat (m + 1) m) B (m + 1 + k.sz) par (f + 1) (by rw [hU, Fo.flat]; simp) (by simp [hA, flat_len]; omega) (fun c hc => by
        rcases List.mem_append.1 hc with hc | hc
        · have := h1 c hc; omega
        · rcases List.mem_cons.1 hc with rfl | hc
          · show par < _; omega
          · rcases flat_par _ _ _ c hc with e | e <;> omega) (fun c hc => by
        rcases h2 c hc with e | e <;> omega) (by omega) (by omega)]
/-- what is read is written as it was -/
theorem text_flat {nm : ByteArray} {k : Fo} (ht : okTree ((treeF nm k).flat 0 (-1)) = true) : bl (textOf ((treeF nm k).flat 0 (-1)) 0) = (treeF nm k).tx := by
  have h := textOf_fo ht
  have hf := fo_flat (treeF nm k) ((treeF nm k).flat 0 (-1)) [] [] 0 (-1) ((treeF nm k).sz + 1) (by simp) rfl (fun c hc => by cases hc) (fun c hc => by cases hc) (by omega) (by omega)
  have hr : rootsF (treeF nm k) 0 = [0] := rfl
  have hl : ((treeF nm k).flat 0 (-1)).length = (treeF nm k).sz := flat_len ..
  have hk : kids ((treeF nm k).flat 0 (-1)) ((0 : Nat) : Int) = rootsF k 1 := kids_node (A := []) (B := []) (r := .nil) (nm := nm) (par := -1) (by simp [treeF]) rfl (fun c hc => by cases hc) (fun c hc => by cases hc) (by omega)
  have hfo : foT ((treeF nm k).flat 0 (-1)) = k := by
    rw [foT, hl, sz_tree, Nat.add_comm 1, foV, hk]
    exact fo_flat k _ [⟨-1, nm⟩] [] 1 0 k.sz (by rw [flat_tree]; simp) rfl (fun c hc => by rw [List.mem_singleton.1 hc]; show (-1 : Int) < _; omega) (fun c hc => by cases hc) (by omega) (Nat.le_refl _)
  have hn : nameOf ((treeF nm k).flat 0 (-1)) 0 = nm := by rw [flat_tree]; rfl
  rw [h, hfo, hn]

theorem root_up {t : List Node} (ht : okTree t = true) : ∀ n v, v ≤ n → v < t.length → 0 ∈ ups t v
  | n, v, h1, h2 => by
    rw [ups_eq ht h2]
    by_cases h0 : v = 0
    · subst h0; exact List.mem_cons_self ..
    · have hp := (okTree_parN ht h2 (by omega)).1
      cases n with
      | zero => omega
      | succ n =>
        rw [if_neg h0]
        exact List.mem_cons_of_mem _ (root_up ht n (parN t v) (by omega) (by omega))
/-! the nodes in the order of the text -/
def preV (t : List Node) : Nat → Nat → List Nat
  | 0, _ => []
  | f + 1, v => (kids t v).flatMap fun c => c.toNat :: preV t f c.toNat
theorem foL_names (g : Nat → Fo) (pg : Nat → List Nat) (t : List Node) (h : ∀ c n par, ((g c).flat n par).map Node.name = (pg c).map (nameOf t)) : ∀ (l : List Int) (n : Nat) (par : Int), ((foL g t l).flat n par).map Node.name = (l.flatMap fun c => c.toNat :: pg c.toNat).map (nameOf t)
  | [], _, _ => rfl
  | c :: l, n, par => by
    rw [foL, Fo.flat, List.map_cons, List.map_append, h, foL_names g pg t h l, List.flatMap_cons, List.map_append, List.map_cons]
    rfl
theorem fo_names (t : List Node) : ∀ f v n par, ((foV t f v).flat n par).map Node.name = (preV t f v).map (nameOf t)
  | 0, _, _, _ => rfl
  | f + 1, v, n, par => foL_names (foV t f) (preV t f) t (fun c n par => fo_names t f c n par) (kids t v) n par
section
variable {t : List Node} (ht : okTree t = true)
include ht
theorem mem_pre : ∀ f v, v < t.length → t.length ≤ v + f → ∀ u, u ∈ preV t f v ↔ u < t.length ∧ v ∈ ups t u ∧ u ≠ v
  | 0, v, h1, h2, u => by omega
  | f + 1, v, h1, h2, u => by
    rw [preV, List.mem_flatMap]
    constructor
    · rintro ⟨x, hx, hu⟩
      obtain ⟨c, rfl, hc, hp⟩ := kid_at hx
      have hgt := (kid_gt ht hc hp).1
      rw [Int.toNat_natCast] at hu
      rcases List.mem_cons.1 hu with rfl | hu
      · exact ⟨hc, (kid_below ht hc hp hc (ups_self ht hc)).2, by omega⟩
      · obtain ⟨g1, g2, g3⟩ := (mem_pre f c hc (by omega) u).1 hu
        have := (kid_below ht hc hp g1 g2).2
        refine ⟨g1, this, fun e => ?_⟩
        have := ups_le' ht g1 g2
        omega
    · rintro ⟨g1, g2, g3⟩
      obtain ⟨c, c1, c2, c3⟩ := child_on ht _ _ (Nat.le_refl _) g1 g2 (Ne.symm g3)
      refine ⟨(c : Int), mem_kids c1 c2, ?_⟩
      rw [Int.toNat_natCast]
      by_cases e : u = c
      · rw [e]; exact List.mem_cons_self ..
      · exact List.mem_cons_of_mem _ ((mem_pre f c c1 (by have := (kid_gt ht c1 c2).1; omega) u).2 ⟨g1, c3, e⟩)
theorem pre_nodup : ∀ f v, v < t.length → t.length ≤ v + f → (preV t f v).Pairwise (· ≠ ·)
  | 0, v, h1, h2 => by omega
  | f + 1, v, h1, h2 => by
    rw [preV, List.pairwise_flatMap]
    refine ⟨fun x hx => ?_, ?_⟩
    · obtain ⟨c, rfl, hc, hp⟩ := kid_at hx
      have hgt := (kid_gt ht hc hp).1
      rw [Int.toNat_natCast]
      refine List.pairwise_cons.2 ⟨fun u hu => ?_, pre_nodup f c hc (by omega)⟩
      exact Ne.symm ((mem_pre ht f c hc (by omega) u).1 hu).2.2
    · refine List.Pairwise.imp_of_mem (R := (· ≠ ·)) (fun {a b} ha hb hne => ?_) (kids_nodup t v)
      obtain ⟨c, rfl, hc, hcp⟩ := kid_at ha
      obtain ⟨d, rfl, hd, hdp⟩ := kid_at hb
      rw [Int.toNat_natCast, Int.toNat_natCast]
      have hin : ∀ (c : Nat), c < t.length → parOf t c = (v : Int) → ∀ u ∈ c :: preV t f c, u < t.length ∧ c ∈ ups t u := fun c hc hp u hu => by
        rcases List.mem_cons.1 hu with rfl | hu
        · exact ⟨hc, ups_self ht hc⟩
        · have := (mem_pre ht f c hc (by have := (kid_gt ht hc hp).1; omega) u).1 hu
          exact ⟨this.1, this.2.1⟩
      intro x hx y hy e
      subst e
      obtain ⟨g1, g2⟩ := hin c hc hcp x hx
      obtain ⟨_, g3⟩ := hin d hd hdp x hy
      exact hne (by rw [kids_apart ht hc hd hcp hdp g1 g2 g3])
theorem pre_all (u : Nat) : u ∈ 0 :: preV t t.length 0 ↔ u < t.length := by
  have hn := (okTree_len ht).1
  rw [List.mem_cons, mem_pre ht _ 0 hn (by omega)]
  constructor
  · rintro (rfl | h)
    · exact hn
    · exact h.1
  · intro h
    by_cases e : u = 0
    · exact .inl e
    · exact .inr ⟨h, root_up ht _ _ (Nat.le_refl _) h, e⟩
theorem pre_nodup0 : (0 :: preV t t.length 0).Pairwise (· ≠ ·) := by
  have hn := (okTree_len ht).1
  refine List.pairwise_cons.2 ⟨fun u hu => ?_, pre_nodup ht _ 0 hn (by omega)⟩
  exact Ne.symm ((mem_pre ht _ 0 hn (by omega) u).1 hu).2.2
theorem pre_len : (0 :: preV t t.length 0).length = t.length := by
  have hp : List.Perm (0 :: preV t t.length 0) (List.range t.length) := (List.perm_ext_iff_of_nodup (pre_nodup0 ht) List.nodup_range).2 fun u => by rw [pre_all ht, List.mem_range]
  rw [hp.length_eq, List.length_range]
end
theorem flat_lt : ∀ (F : Fo) (n : Nat) (par : Int), par < (n : Int) → ∀ j, j < F.sz → ((F.flat n par).getD j Node.zero).parent < ((n + j : Nat) : Int)
  | .nil, _, _, _, j, h => by simp [Fo.sz] at h
  | .cons nm k r, n, par, hp, j, h => by
    simp only [Fo.sz] at h
    rw [Fo.flat]
    cases j with
    | zero => exact hp
    | succ j =>
      show ((k.flat (n + 1) n ++ r.flat (n + 1 + k.sz) par).getD j Node.zero).parent < _
      by_cases hj : j < k.sz
      · have := flat_lt k (n + 1) n (by omega) j hj
        rw [List.getD, List.getElem?_append_left (by rw [flat_len]; exact hj)]
        show ((k.flat (n + 1) n).getD j Node.zero).parent < _
        omega
      · have := flat_lt r (n + 1 + k.sz) par (by omega) (j - k.sz) (by omega)
        rw [List.getD, List.getElem?_append_right (by rw [flat_len]; omega), flat_len]
        show ((r.flat (n + 1 + k.sz) par).getD (j - k.sz) Node.zero).parent < _
        omega
/-- each hangs on what it hung on -/
theorem foL_par {t : List Node} (g : Nat → Fo) (v : Nat) (U : List Node)
    (hg : ∀ c, c < t.length → parOf t c = (v : Int) → ∀ (A B : List Node) (n : Nat), U = A ++ (g c).flat (n + 1) n ++ B → A.length = n + 1 → (U.getD n Node.zero).name = nameOf t c → ∀ x ∈ (g c).flat (n + 1) n, 0 ≤ x.parent ∧ ∃ w, w < t.length ∧ 0 < w ∧ x.name = nameOf t w ∧ (U.getD x.parent.toNat Node.zero).name = nameOf t (parN t w)) (ht : okTree t = true) :
    ∀ (l : List Int), (∀ x ∈ l, x ∈ kids t v) → ∀ (A B : List Node) (n p : Nat), U = A ++ (foL g t l).flat n p ++ B → A.length = n → (U.getD p Node.zero).name = nameOf t v → ∀ x ∈ (foL g t l).flat n p, 0 ≤ x.parent ∧ ∃ w, w < t.length ∧ 0 < w ∧ x.name = nameOf t w ∧ (U.getD x.parent.toNat Node.zero).name = nameOf t (parN t w)
  | [], _, A, B, n, p, _, _, _, x, hx => by cases hx
  | c :: l, hl, A, B, n, p, hU, hA, hnm, x, hx => by
    obtain ⟨c, rfl, hc, hp⟩ := kid_at (hl _ (List.mem_cons_self ..))
    rw [foL, Int.toNat_natCast, Fo.flat] at hx hU
    have hpc : parN t c = v := by rw [parN, hp]; rfl
    rcases List.mem_cons.1 hx with rfl | hx
    · refine ⟨Int.natCast_nonneg p, c, hc, by have := (kid_gt ht hc hp).1; omega, rfl, ?_⟩
      show (U.getD ((p : Nat) : Int).toNat Node.zero).name = _
      rw [Int.toNat_natCast, hnm, hpc]
    · rcases List.mem_append.1 hx with hx | hx
      · refine hg c hc hp (A ++ [⟨p, nameOf t c⟩]) ((foL g t l).flat (n + 1 + (g c).sz) p ++ B) n (by rw [hU]; simp) (by simp [hA]) ?_ x hx
        rw [hU, ← hA, List.append_assoc, List.cons_append, getD_mid]
      · exact foL_par g v U hg ht l (fun y hy => hl y (List.mem_cons_of_mem _ hy)) (A ++ ⟨p, nameOf t c⟩ :: (g c).flat (n + 1) n) B (n + 1 + (g c).sz) p (by rw [hU]; simp) (by simp [hA, flat_len]; omega) hnm x hx
theorem fo_par {t : List Node} (ht : okTree t = true) (U : List Node) : ∀ f v, v < t.length → ∀ (A B : List Node) (n p : Nat), U = A ++ (foV t f v).flat n p ++ B → A.length = n → (U.getD p Node.zero).name = nameOf t v → ∀ x ∈ (foV t f v).flat n p, 0 ≤ x.parent ∧ ∃ w, w < t.length ∧ 0 < w ∧ x.name = nameOf t w ∧ (U.getD x.parent.toNat Node.zero).name = nameOf t (parN t w)
  | 0, v, hv, A, B, n, p, _, _, _, x, hx => by cases hx
  | f + 1, v, hv, A, B, n, p, hU, hA, hnm, x, hx =>
    foL_par (foV t f) v U (fun c hc hp A B n hU hA hn => fo_par ht U f c hc A B (n + 1) n hU hA hn) ht (kids t v) (fun _ h => h) A B n p hU hA hnm x hx

theorem find_self {t : List Node} (ht : okTree t = true) {v : Nat} (hv : v < t.length) {x : ByteArray} (hx : (t.getD v Node.zero).name = x) : findV t x = (v : Int) ∧ findE t x = 0 := by
  have hnode := okTree_node ht hv
  simp only [okNode, Bool.and_eq_true] at hnode
  have hfr := hnode.2.2
  rw [fresh, List.all_eq_true] at hfr
  subst hx
  have hf := find_hit (t := t) hv (fun j hj => of_decide_eq_true (hfr j (by simpa using hj))) rfl
  rw [findV, findE, if_pos ht, if_pos ht, hf, if_neg (by omega), if_neg (by omega)]
  exact ⟨rfl, rfl⟩
theorem name_inj {t : List Node} (ht : okTree t = true) {v w : Nat} (hv : v < t.length) (hw : w < t.length) (h : nameOf t v = nameOf t w) : v = w := by
  have h1 := (find_self ht hv (x := nameOf t v) rfl).1
  have h2 := (find_self ht hw (x := nameOf t v) h.symm).1
  omega
/-- the tree that is read from a tree's text -/
def inOrd (t : List Node) : List Node := (treeF (nameOf t 0) (foT t)).flat 0 (-1)
theorem inOrd_def (t : List Node) : inOrd t = ⟨-1, nameOf t 0⟩ :: (foT t).flat 1 0 := flat_tree ..
theorem inOrd_names (t : List Node) : (inOrd t).map Node.name = (0 :: preV t t.length 0).map (nameOf t) := by
  rw [inOrd_def, List.map_cons, List.map_cons]
  congr 1
  exact fo_names t t.length 0 1 0
section
variable {t : List Node} (ht : okTree t = true)
include ht
theorem inOrd_len : (inOrd t).length = t.length := by
  have := congrArg List.length (inOrd_names t)
  rw [List.length_map, List.length_map, pre_len ht] at this
  exact this
theorem inOrd_name {i : Nat} (h : i < (inOrd t).length) : ∃ v, v < t.length ∧ ((inOrd t).getD i Node.zero).name = nameOf t v ∧ (0 :: preV t t.length 0).getD i 0 = v := by
  have hl := pre_len ht
  have hn := inOrd_names t
  have h2 : i < (0 :: preV t t.length 0).length := by rw [hl, ← inOrd_len ht]; exact h
  refine ⟨(0 :: preV t t.length 0)[i], (pre_all ht _).1 (List.getElem_mem h2), ?_, getD_of 0 _ i h2⟩
  have e : ((inOrd t).map Node.name)[i]? = ((0 :: preV t t.length 0).map (nameOf t))[i]? := by rw [hn]
  rw [List.getElem?_map, List.getElem?_map, List.getElem?_eq_getElem h, List.getElem?_eq_getElem h2] at e
  rw [getD_of Node.zero _ i h]
  exact Option.some.inj e
theorem inOrd_at {v : Nat} (hv : v < t.length) : ∃ i, i < (inOrd t).length ∧ ((inOrd t).getD i Node.zero).name = nameOf t v ∧ (v ≠ 0 → i ≠ 0) := by
  obtain ⟨i, hi, e⟩ := List.mem_iff_getElem.1 ((pre_all ht v).2 hv)
  have hi' : i < (inOrd t).length := by rw [inOrd_len ht, ← pre_len ht]; exact hi
  obtain ⟨w, hw, h1, h2⟩ := inOrd_name ht hi'
  rw [getD_of 0 _ i hi, e] at h2
  subst h2
  refine ⟨i, hi', h1, fun h0 hi0 => h0 ?_⟩
  subst hi0
  exact e.symm
theorem inOrd_ok : okTree (inOrd t) = true := by
  have hn := okTree_len ht
  have hl := inOrd_len ht
  rw [okTree, Bool.and_eq_true, Bool.and_eq_true, decide_eq_true_eq, decide_eq_true_eq, List.all_eq_true, hl]
  refine ⟨hn.1, hn.2, fun r hr => ?_⟩
  have hr : r < t.length := by simpa using hr
  have hr' : r < (inOrd t).length := by omega
  obtain ⟨v, hv, hnm, hpv⟩ := inOrd_name ht hr'
  have hnode := okTree_node ht hv
  simp only [okNode, Bool.and_eq_true] at hnode
  simp only [okNode, Bool.and_eq_true, okPar, fresh, List.all_eq_true, decide_eq_true_eq]
  refine ⟨?_, ?_, fun q hq => ?_⟩
  · by_cases h0 : r = 0
    · subst h0
      rw [if_pos rfl, inOrd_def]; rfl
    · rw [if_neg h0]
      have h1 : 0 ≤ ((inOrd t).getD r Node.zero).parent := by
        obtain ⟨r', rfl⟩ : ∃ r', r = r' + 1 := ⟨r - 1, by omega⟩
        have hm : (inOrd t).getD (r' + 1) Node.zero ∈ (foT t).flat 1 ((0 : Nat) : Int) := by
          rw [inOrd_def] at hr' ⊢
          have hr2 : r' < ((foT t).flat 1 0).length := by simpa using hr'
          show ((foT t).flat 1 0).getD r' Node.zero ∈ _
          rw [getD_of Node.zero _ r' hr2]
          exact List.getElem_mem hr2
        rcases flat_par _ _ _ _ hm with e | e <;> omega
      have h2 := flat_lt (treeF (nameOf t 0) (foT t)) 0 (-1) (by omega) r (by rw [← flat_len (treeF (nameOf t 0) (foT t)) 0 (-1)]; exact hr')
      have h2 : ((inOrd t).getD r Node.zero).parent < ((0 + r : Nat) : Int) := h2
      rw [Bool.and_eq_true, decide_eq_true_eq, decide_eq_true_eq]
      omega
  · rw [hnm]; exact hnode.2.1
  · have hq : q < r := by simpa using hq
    obtain ⟨w, hw, hnm2, hpw⟩ := inOrd_name ht (show q < (inOrd t).length by omega)
    rw [hnm, hnm2]
    intro e
    have := name_inj ht hw hv e
    subst this
    have h2 : r < (0 :: preV t t.length 0).length := by rw [pre_len ht]; exact hr
    rw [getD_of 0 _ r h2] at hpv
    rw [getD_of 0 _ q (by omega)] at hpw
    exact List.pairwise_iff_getElem.1 (pre_nodup0 ht) q r (by omega) h2 hq (by rw [hpw, hpv])
theorem inOrd_par {i : Nat} (hi : i < (inOrd t).length) (h0 : i ≠ 0) {v : Nat} (hv : v < t.length) (hnm : ((inOrd t).getD i Node.zero).name = nameOf t v) :
    0 ≤ ((inOrd t).getD i Node.zero).parent ∧ ((inOrd t).getD i Node.zero).parent < i ∧ ((inOrd t).getD ((inOrd t).getD i Node.zero).parent.toNat Node.zero).name = nameOf t (parN t v) := by
  have hok := inOrd_ok ht
  obtain ⟨i', rfl⟩ : ∃ i', i = i' + 1 := ⟨i - 1, by omega⟩
  have hm : (inOrd t).getD (i' + 1) Node.zero ∈ (foT t).flat 1 ((0 : Nat) : Int) := by
    rw [inOrd_def] at hi ⊢
    have hr2 : i' < ((foT t).flat 1 0).length := by simpa using hi
    show ((foT t).flat 1 0).getD i' Node.zero ∈ _
    rw [getD_of Node.zero _ i' hr2]
    exact List.getElem_mem hr2
  obtain ⟨g1, w, g2, g3, g4, g5⟩ := fo_par ht (inOrd t) t.length 0 (okTree_len ht).1 [⟨-1, nameOf t 0⟩] [] 1 0 (by rw [inOrd_def, List.append_nil]; rfl) rfl (by rw [inOrd_def]; rfl) _ hm
  rw [hnm] at g4
  have := name_inj ht hv g2 g4
  subst this
  have hp := okTree_par hok hi (by omega)
  exact ⟨g1, hp.2, g5⟩
theorem inOrd_text : bl (textOf t 0) = (treeF (nameOf t 0) (foT t)).tx := textOf_fo ht
theorem name_ok_letters {v : Nat} (hv : v < t.length) : Letters (nameOf t v) := by
  have hnode := okTree_node ht hv
  simp only [okNode, Bool.and_eq_true] at hnode
  have hn := hnode.2.1
  simp only [namedB, Bool.and_eq_true, List.all_eq_true] at hn
  intro b hb
  obtain ⟨i, hi, e⟩ := List.mem_iff_getElem.1 hb
  have h1 : letterB (byteAt (nameOf t v) i) = true := hn.1 i (List.mem_range.2 (by rw [bl_len] at hi; exact hi))
  rw [byteAt_bl, getD_of 0 _ i hi] at h1
  rw [← e]
  exact h1
theorem foV_ok : ∀ f v, v < t.length → (foV t f v).ok
  | 0, _, _ => trivial
  | f + 1, v, hv => by
    have hl : ∀ (l : List Int), (∀ x ∈ l, x ∈ kids t v) → (foL (foV t f) t l).ok := fun l => by
      induction l with
      | nil => intro _; trivial
      | cons c l ih =>
        intro h
        obtain ⟨u, e, hu, hp⟩ := kid_at (h c (List.mem_cons_self ..))
        subst e
        rw [foL, Int.toNat_natCast]
        exact ⟨name_ok_letters ht hu, foV_ok f u hu, ih fun x hx => h x (List.mem_cons_of_mem _ hx)⟩
    exact hl _ fun _ h => h
theorem inOrd_parse {x : ByteArray} (hb : bl x = (treeF (nameOf t 0) (foT t)).tx) : parseR x = some (inOrd t) := parse_of ⟨name_ok_letters ht (okTree_len ht).1, foV_ok ht _ _ (okTree_len ht).1⟩ (inOrd_ok ht) hb
theorem inOrd_again : textOf (inOrd t) 0 = textOf t 0 := bl_inj (by rw [inOrd_text ht]; exact text_flat (inOrd_ok ht))
end
/-- what was read is written as the same text -/
theorem back_text {s : ByteArray} (hs : s.size ≤ 65536) {u : List Node} (h : parseR s = some u) : textOf u 0 = s := by
  obtain ⟨hu, nm, k, _, rfl, hb⟩ := parse_tree hs h
  exact bl_inj (by rw [hb]; exact text_flat hu)

end Go.Cp
end
