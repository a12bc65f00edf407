/-
  Sankoff: the first of the smallest; the numbers of ways as products over the children. Plain. Conditions: none.
  Sankoff: what an assignment costs, and the table: no assignment is cheaper, the first one is as cheap. Plain. Conditions: none.
-/
import Derived.Test.YtfalggfambgkeaaMH

section
set_option linter.unusedVariables false
set_option linter.unusedSimpArgs false
set_option maxHeartbeats 4000000
set_option maxRecDepth 10000
namespace Go.Cp
open Go Go.Proofs Go.Vx

theorem ini_val (l st : List Int) (ns v s : Nat) (hs : s < ns) (k : Nat) : ini l st ns k v s = if (List.range k).all (fun j => !decide ((l.getD j 0).toNat = v ∧ st.getD j 0 ≠ -1 ∧ st.getD j 0 ≠ (s : Int))) then 0 else -1 := by
  induction k with
  | zero => rfl
  | succ k ih =>
    rw [all_range_succ, ini, blk, ih]
    by_cases h : (l.getD k 0).toNat = v ∧ st.getD k 0 ≠ -1 ∧ st.getD k 0 ≠ (s : Int)
    · rw [if_pos ⟨h.1.symm, hs, h.2⟩, decide_eq_true h]; simp
    · rw [if_neg (fun e => h ⟨e.1.symm, e.2.2⟩), decide_eq_false h]; simp
theorem leaf_inj {t : List Node} {i j : Nat} (hi : i < (leavesOf t).length) (hj : j < (leavesOf t).length) (h : (leavesOf t).getD i 0 = (leavesOf t).getD j 0) : i = j := by
  have hn : (leavesOf t).Nodup := by
    rw [leavesOf, leavesTo]
    refine List.Pairwise.map _ (fun a b h => ?_) (List.Pairwise.filter _ List.nodup_range)
    intro e
    exact h (by exact_mod_cast e)
  simp only [List.getD, List.getElem?_eq_getElem hi, List.getElem?_eq_getElem hj, Option.getD_some] at h
  have hp := List.pairwise_iff_getElem.1 hn
  rcases Nat.lt_trichotomy i j with e | e | e
  · exact absurd h (hp i j hi hj e)
  · exact e
  · exact absurd h.symm (hp j i hj hi e)

/-- the first of the smallest is what it says -/
theorem bestTo_spec {c : Nat → Int} : ∀ {k : Nat}, (∀ s, s < k → -1 ≤ c s) → ((bestTo c k).1 = -1 ∧ ∀ s, s < k → c s = -1) ∨
    ∃ b : Nat, b < k ∧ (bestTo c k).2 = (b : Int) ∧ c b = (bestTo c k).1 ∧ 0 ≤ c b ∧ (∀ s, s < k → c s = -1 ∨ c b ≤ c s) ∧ ∀ s, s < b → c s ≠ c b
  | 0, _ => .inl ⟨rfl, fun s h => by omega⟩
  | k + 1, hc => by
    have hk := hc k (by omega)
    rw [bestTo_succ]
    rcases bestTo_spec (k := k) (fun s h => hc s (by omega)) with ⟨h1, h2⟩ | ⟨b, hb, hb2, hb1, hb0, hmin, hfst⟩
    · by_cases h : c k = -1
      · rw [if_neg (by rw [h]; simp)]
        refine .inl ⟨h1, fun s hs => ?_⟩
        rcases Nat.lt_succ_iff_lt_or_eq.1 hs with hs | hs
        · exact h2 s hs
        · rw [hs]; exact h
      · rw [if_pos ⟨h, .inl h1⟩]
        refine .inr ⟨k, by omega, rfl, rfl, by omega, fun s hs => ?_, fun s hs e => h (by rw [← e]; exact h2 s hs)⟩
        rcases Nat.lt_succ_iff_lt_or_eq.1 hs with hs | hs
        · exact .inl (h2 s hs)
        · rw [hs]; exact .inr (Int.le_refl _)
    · by_cases h : c k ≠ -1 ∧ ((bestTo c k).1 = -1 ∨ c k < (bestTo c k).1)
      · rw [if_pos h]
        have hlt : c k < c b := by
          rcases h.2 with e | e
          · omega
          · rw [hb1]; exact e
        refine .inr ⟨k, by omega, rfl, rfl, by omega, fun s hs => ?_, fun s hs e => ?_⟩
        · rcases Nat.lt_succ_iff_lt_or_eq.1 hs with hs | hs
          · rcases hmin s hs with e | e
            · exact .inl e
            · exact .inr (by omega)
          · rw [hs]; exact .inr (Int.le_refl _)
        · rcases hmin s hs with e' | e' <;> omega
      · rw [if_neg h]
        refine .inr ⟨b, by omega, hb2, hb1, hb0, fun s hs => ?_, hfst⟩
        rcases Nat.lt_succ_iff_lt_or_eq.1 hs with hs | hs
        · exact hmin s hs
        · subst hs
          by_cases e : c s = -1
          · exact .inl e
          · exact .inr (by
              have : ¬ ((bestTo c s).1 = -1 ∨ c s < (bestTo c s).1) := fun e' => h ⟨e, e'⟩
              omega)
theorem filter_first {p : Nat → Prop} [DecidablePred p] {b : Nat} (hb : p b) : ∀ {k : Nat}, b < k → (∀ s, s < b → ¬ p s) → ∃ r, (List.range k).filter (fun s => decide (p s)) = b :: r
  | 0, h, _ => by omega
  | k + 1, h, hf => by
    rw [List.range_succ, List.filter_append]
    rcases Nat.lt_succ_iff_lt_or_eq.1 h with h | h
    · obtain ⟨r, hr⟩ := filter_first hb h hf
      rw [hr]
      exact ⟨r ++ List.filter (fun s => decide (p s)) [k], rfl⟩
    · subst h
      have : (List.range b).filter (fun s => decide (p s)) = [] := by
        rw [List.filter_eq_nil_iff]
        intro a ha
        simpa using hf a (by simpa using ha)
      rw [this, List.nil_append, List.filter_cons_of_pos (by simpa using hb)]
      exact ⟨[], rfl⟩
theorem Good.rootB {t : List Node} {m : List (List Int)} {st : List Int} (g : Good t m st) (hr : (rootP t m st).1 ≠ -1) : ∃ b : Nat, b < m.length ∧ (rootP t m st).2 = (b : Int) ∧ solF t m st 0 b = (rootP t m st).1 ∧ 0 ≤ solF t m st 0 b ∧ (∀ s, s < m.length → solF t m st 0 s = -1 ∨ solF t m st 0 b ≤ solF t m st 0 s) ∧ ∀ s, s < b → solF t m st 0 s ≠ solF t m st 0 b := by
  rcases bestTo_spec (c := solF t m st 0) (k := m.length) (fun s _ => (g.bd 0 s).1) with ⟨h, _⟩ | h
  · exact absurd h hr
  · exact h
theorem Good.roots {t : List Node} {m : List (List Int)} {st : List Int} (g : Good t m st) (hr : (rootP t m st).1 ≠ -1) : ∃ r, rootsTo t m st m.length = (rootP t m st).2 :: r := by
  obtain ⟨b, h1, h2, h3, h4, h5, h6⟩ := g.rootB hr
  obtain ⟨r, hrr⟩ := filter_first (p := fun s => solF t m st 0 s = (rootP t m st).1) h3 h1 (fun s hs => by rw [← h3]; exact h6 s hs)
  rw [rootsTo, hrr, h2]
  exact ⟨_, rfl⟩
theorem stepF_m1 {m : List (List Int)} {F : Fn2} (hm : Mat m) (hF : ∀ v s, -1 ≤ F v s) (v a b : Nat) : -1 ≤ stepF m F v a b := by
  have h1 := hm.2.2.2 a b
  have h2 := hF v b
  rw [stepF]; split <;> omega
theorem Good.underB {t : List Node} {m : List (List Int)} {st : List Int} (g : Good t m st) {v a : Nat} (h : underF m (solF t m st) v a ≠ -1) : ∃ b : Nat, b < m.length ∧ (bestTo (stepF m (solF t m st) v a) m.length).2 = (b : Int) ∧ stepF m (solF t m st) v a b = underF m (solF t m st) v a ∧ 0 ≤ stepF m (solF t m st) v a b ∧
    (∀ s, s < m.length → stepF m (solF t m st) v a s = -1 ∨ stepF m (solF t m st) v a b ≤ stepF m (solF t m st) v a s) ∧ ∀ s, s < b → stepF m (solF t m st) v a s ≠ stepF m (solF t m st) v a b := by
  rcases bestTo_spec (c := stepF m (solF t m st) v a) (k := m.length) (fun s _ => stepF_m1 g.mat (fun v s => (g.bd v s).1) _ _ _) with ⟨h', _⟩ | h'
  · exact absurd h' h
  · exact h'

/-! the ways -/
abbrev finW (t : List Node) (m : List (List Int)) (F : Fn2) : FnW := wayF t m F (t.length - 1)
theorem way_keep {t : List Node} {m : List (List Int)} {F : Fn2} (hp : ∀ v, 0 < v → v < t.length → parN t v < v) {k u : Nat} (h : t.length - 1 - u ≤ k) (d : Nat) (hd : k + d ≤ t.length - 1) : wayF t m F (k + d) u = wayF t m F k u := by
  induction d with
  | zero => rfl
  | succ d ih =>
    have hp := hp (t.length - 1 - (k + d)) (by omega) (by omega)
    rw [← Nat.add_assoc, wayF, ← ih (by omega)]
    funext s
    rw [wayR, if_neg]
    rintro ⟨e, _⟩
    omega
theorem way_row {t : List Node} {m : List (List Int)} {F : Fn2} (hp : ∀ v, 0 < v → v < t.length → parN t v < v) {u k : Nat} (h : t.length - 1 - u ≤ k) (hk : k ≤ t.length - 1) : wayF t m F k u = finW t m F u := by
  have := way_keep (m := m) (F := F) hp h (t.length - 1 - k) (by omega)
  rw [← this, show k + (t.length - 1 - k) = t.length - 1 by omega]
theorem way_fold {t : List Node} {m : List (List Int)} {F : Fn2} (hp : ∀ v, 0 < v → v < t.length → parN t v < v) (u s : Nat) (hs : s < m.length) : ∀ k, k ≤ t.length - 1 →
    wayF t m F k u s = (List.range k).foldl (fun a k => if u = parN t (t.length - 1 - k) then a * swTo m F (t.length - 1 - k) s (finW t m F (t.length - 1 - k)) m.length else a) 1 := by
  intro k
  induction k with
  | zero => intro _; simp [wayF, way0, hs]
  | succ k ih =>
    intro hk
    rw [List.range_succ, List.foldl_append, ← ih (by omega)]
    simp only [List.foldl_cons, List.foldl_nil, wayF, wayR]
    by_cases h : u = parN t (t.length - 1 - k)
    · rw [if_pos ⟨h, hs⟩, if_pos h, ← h, way_row hp (u := t.length - 1 - k) (k := k) (by omega) (by omega)]
    · rw [if_neg (fun e => h e.1), if_neg h]
def accM (t : List Node) (v : Nat) (U : Nat → Nat) (k : Nat) : Nat := (List.range k).foldl (fun a w => if parOf t w = (v : Int) then a * U w else a) 1
theorem accM_succ (t : List Node) (v : Nat) (U : Nat → Nat) (k : Nat) : accM t v U (k + 1) = if parOf t k = (v : Int) then accM t v U k * U k else accM t v U k := by
  rw [accM, List.range_succ, List.foldl_append]; rfl
theorem accM_low {t : List Node} (ht : okTree t = true) {v : Nat} {U : Nat → Nat} : ∀ {k : Nat}, k ≤ v + 1 → k ≤ t.length → accM t v U k = 1
  | 0, _, _ => rfl
  | k + 1, h, hl => by
    rw [accM_succ, if_neg, accM_low ht (by omega) (by omega)]
    intro e
    by_cases h0 : k = 0
    · subst h0; rw [okTree_root ht] at e; omega
    · have := okTree_par ht (k := k) (by omega) (by omega)
      omega
theorem accM_fin {t : List Node} {m : List (List Int)} {F : Fn2} (ht : okTree t = true) (u s : Nat) (hs : s < m.length) : accM t u (fun w => swTo m F w s (finW t m F w) m.length) t.length = finW t m F u s := by
  have hn := okTree_len ht
  have hpp : ∀ v, 0 < v → v < t.length → parN t v < v ∧ parOf t v = (parN t v : Nat) := fun v h0 hv => by
    have := okTree_par ht hv h0
    rw [parN]; omega
  have hroot := okTree_root ht
  rw [finW, way_fold (fun v h0 hv => (hpp v h0 hv).1) u s hs _ (Nat.le_refl _)]
  have e1 : (List.range (t.length - 1)).foldl (fun a k => if u = parN t (t.length - 1 - k) then a * swTo m F (t.length - 1 - k) s (finW t m F (t.length - 1 - k)) m.length else a) 1 =
      ((List.range t.length).map fun k => t.length - 1 - k).foldl (fun a w => if parOf t w = (u : Int) then a * swTo m F w s (finW t m F w) m.length else a) 1 := by
    obtain ⟨n, hnn⟩ : ∃ n, t.length = n + 1 := ⟨t.length - 1, by omega⟩
    rw [List.foldl_map, hnn, List.range_succ, List.foldl_append]
    simp only [List.foldl_cons, List.foldl_nil, Nat.add_sub_cancel, Nat.sub_self, hroot]
    rw [if_neg (by omega)]
    refine foldl_same _ (fun a k hk => ?_) _
    have hk : k < n := by simpa using hk
    have := hpp (n - k) (by omega) (by omega)
    by_cases h : u = parN t (n - k)
    · rw [if_pos h, if_pos (by omega)]
    · rw [if_neg h, if_neg (by omega)]
  rw [e1, ← range_rev, accM]
  refine List.Perm.foldl_eq' (f := fun a w => if parOf t w = (u : Int) then a * swTo m F w s (finW t m F w) m.length else a) (List.reverse_perm _).symm (fun x _ y _ z => ?_) _
  split <;> split <;> first | rfl | (rw [Nat.mul_assoc, Nat.mul_assoc, Nat.mul_comm (swTo m F _ _ _ _)])

/-! the roots' sum -/
def sumW (w : Nat → Nat) (l : List Nat) : Nat := l.foldl (fun a s => a + w s) 0
theorem sumW_app (w : Nat → Nat) (l : List Nat) (x : Nat) : sumW w (l ++ [x]) = sumW w l + w x := by rw [sumW, List.foldl_append]; rfl
theorem cntTo_sum (c : Nat → Int) (x : Int) (w : Nat → Nat) : ∀ k, cntTo c x w k = sumW w ((List.range k).filter fun s => decide (c s = x))
  | 0 => rfl
  | k + 1 => by
    rw [cntTo_succ, cntTo_sum c x w k, List.range_succ, List.filter_append]
    by_cases h : c k = x
    · rw [if_pos h, List.filter_cons_of_pos (by simpa using h), List.filter_nil, sumW_app]
    · rw [if_neg h, List.filter_cons_of_neg (by simpa using h), List.filter_nil, List.append_nil, Nat.add_zero]

end Go.Cp
end

section
set_option linter.unusedVariables false
set_option linter.unusedSimpArgs false
set_option maxHeartbeats 4000000
set_option maxRecDepth 10000
namespace Go.Cp
open Go Go.Proofs Go.Vx

def sumI (f : Nat → Int) : Nat → Int
  | 0 => 0
  | n + 1 => sumI f n + f n
theorem sumI_congr {f h : Nat → Int} {n : Nat} (e : ∀ i, i < n → f i = h i) : sumI f n = sumI h n := by
  induction n with
  | zero => rfl
  | succ n ih => rw [sumI, sumI, ih fun i hi => e i (by omega), e n (by omega)]
theorem sumI_upd {f : Nat → Int} {i n : Nat} {x : Int} (hi : i < n) : sumI (fun j => if j = i then x else f j) n = sumI f n - f i + x := by
  induction n with
  | zero => omega
  | succ n ih =>
    rw [sumI, sumI]
    by_cases h : n = i
    · subst h
      rw [if_pos rfl, sumI_congr (h := f) fun j hj => if_neg (by omega)]
      omega
    · rw [if_neg h, ih (by omega)]
      omega
abbrev aOf (all : List Int) (v : Nat) : Nat := (all.getD v 0).toNat
/-- how much more a node costs than it has to -/
def moreF (t : List Node) (m : List (List Int)) (F : Fn2) (all : List Int) (v : Nat) : Int := stepF m F v (aOf all (parN t v)) (aOf all v) - underF m F v (aOf all (parN t v))
def moreTo (t : List Node) (m : List (List Int)) (F : Fn2) (all : List Int) : Nat → Int
  | 0 => 0
  | k + 1 => moreTo t m F all k + moreF t m F all (t.length - 1 - k)

theorem underF_le {m : List (List Int)} {F : Fn2} (hm : Mat m) (hF : ∀ v s, -1 ≤ F v s) {v a b : Nat} (hb : b < m.length) (h : stepF m F v a b ≠ -1) : 0 ≤ underF m F v a ∧ underF m F v a ≤ stepF m F v a b := by
  rcases bestTo_spec (c := stepF m F v a) (k := m.length) (fun s _ => stepF_m1 hm hF _ _ _) with ⟨_, h2⟩ | ⟨b', h1, h2, h3, h4, h5, h6⟩
  · exact absurd (h2 b hb) h
  · have e : underF m F v a = stepF m F v a b' := h3.symm
    rcases h5 b hb with e' | e'
    · exact absurd e' h
    · omega
/-- an assignment that agrees with the leaves, and none of whose changes is impossible -/
structure Asg (t : List Node) (m : List (List Int)) (st all : List Int) : Prop where
  len : all.length = t.length
  bd : ∀ v, v < t.length → 0 ≤ all.getD v 0 ∧ all.getD v 0 < m.length
  fit : ∀ v, v < t.length → iniF t m st v (aOf all v) = 0
  can : ∀ v, 0 < v → v < t.length → xAt t m all v ≠ -1
theorem cost_m1 {t : List Node} {m : List (List Int)} {st : List Int} (g : Good t m st) (k : Nat) (hk : k + 1 ≤ t.length) (v s : Nat) : -1 ≤ costF t m (iniF t m st) k v s :=
  (cost_cap (t := t) g.mat (fun v s => ini_bd _ _ _ _ _ _) k v s).1
theorem asg_sum {t : List Node} {m : List (List Int)} {st all : List Int} (g : Good t m st) (h : Asg t m st all) : ∀ k, k ≤ t.length - 1 →
    (∀ v, v < t.length - k → 0 ≤ costF t m (iniF t m st) k v (aOf all v)) ∧ (∀ v, t.length - k ≤ v → v < t.length → 0 ≤ solF t m st v (aOf all v) ∧ 0 ≤ moreF t m (solF t m st) all v) ∧
    sumI (fun v => costF t m (iniF t m st) k v (aOf all v)) (t.length - k) + costTo t m all (t.length - 1 - k) + moreTo t m (solF t m st) all k = costTo t m all (t.length - 1) := by
  intro k
  have hn0 := g.n0
  induction k with
  | zero =>
    intro _
    refine ⟨fun v hv => ?_, fun v h1 h2 => by omega, ?_⟩
    · have := h.fit v (by omega)
      show 0 ≤ iniF t m st v (aOf all v)
      omega
    · have e : sumI (fun v => costF t m (iniF t m st) 0 v (aOf all v)) (t.length - 0) = 0 := by
        refine (sumI_congr (h := fun _ => 0) fun v hv => h.fit v (by omega)).trans ?_
        generalize t.length - 0 = n
        induction n with
        | zero => rfl
        | succ n ih => rw [sumI, ih]; rfl
      rw [e, moreTo]
      show 0 + costTo t m all (t.length - 1) + 0 = _
      omega
  | succ k ih =>
    intro hk
    obtain ⟨h1, h2, h3⟩ := ih (by omega)
    obtain ⟨v, hv⟩ : ∃ v, v = t.length - 1 - k := ⟨_, rfl⟩
    have hv0 : 0 < v := by omega
    have hvn : v < t.length := by omega
    obtain ⟨hp, _⟩ := g.par v hv0 hvn
    have hx := h.can v hv0 hvn
    have hav : aOf all v < m.length := by have := h.bd v hvn; rw [aOf]; omega
    have hap : aOf all (parN t v) < m.length := by have := h.bd (parN t v) (by omega); rw [aOf]; omega
    have hrow : costF t m (iniF t m st) k v = solF t m st v := fin_row (fun v h0 hv => (g.par v h0 hv).1) (by omega) (by omega)
    have hcv := h1 v (by omega)
    have hcp := h1 (parN t v) (by omega)
    rw [hrow] at hcv
    have hst : stepF m (solF t m st) v (aOf all (parN t v)) (aOf all v) = xAt t m all v + solF t m st v (aOf all v) := by
      rw [stepF, if_neg]
      · rfl
      · rintro (e | e)
        · exact hx e
        · omega
    have hxb := g.mat.2.2.2 (aOf all (parN t v)) (aOf all v)
    have hx0 : 0 ≤ xAt t m all v := by
      have : -1 ≤ xAt t m all v := hxb.1
      omega
    have hu := underF_le (F := solF t m st) g.mat (fun v s => (g.bd v s).1) (v := v) (a := aOf all (parN t v)) hav (by rw [hst]; omega)
    have hue : underF m (costF t m (iniF t m st) k) v (aOf all (parN t v)) = underF m (solF t m st) v (aOf all (parN t v)) := under_congr hrow
    have hnew : ∀ u, costF t m (iniF t m st) (k + 1) u (aOf all u) = if u = parN t v then costF t m (iniF t m st) k (parN t v) (aOf all (parN t v)) + underF m (solF t m st) v (aOf all (parN t v)) else costF t m (iniF t m st) k u (aOf all u) := fun u => by
      rw [costF, ← hv, rnd]
      by_cases e : u = parN t v
      · rw [if_pos ⟨e, by rw [e]; exact hap⟩, if_pos e, e, hue, comb, if_neg (by omega)]
      · rw [if_neg (fun e' => e e'.1), if_neg e]
    have hcost : costTo t m all (t.length - 1 - k) = costTo t m all (t.length - 1 - (k + 1)) + xAt t m all v := by
      obtain ⟨w, hw⟩ : ∃ w, v = w + 1 := ⟨v - 1, by omega⟩
      rw [← hv, hw, show t.length - 1 - (k + 1) = w by omega]
      rfl
    have hmv : moreF t m (solF t m st) all v = xAt t m all v + solF t m st v (aOf all v) - underF m (solF t m st) v (aOf all (parN t v)) := by rw [moreF, hst]
    refine ⟨fun u hu' => ?_, fun u hu1 hu2 => ?_, ?_⟩
    · rw [hnew]
      split
      · omega
      · exact h1 u (by omega)
    · by_cases e : u = v
      · rw [e, hmv]; exact ⟨hcv, by omega⟩
      · exact h2 u (by omega) hu2
    · have e1 : t.length - k = (t.length - (k + 1)) + 1 := by omega
      have e2 : t.length - (k + 1) = v := by omega
      rw [e1, sumI, e2, hrow] at h3
      rw [e2, sumI_congr fun u _ => hnew u, sumI_upd (f := fun u => costF t m (iniF t m st) k u (aOf all u)) hp, moreTo, ← hv, hmv]
      rw [hcost] at h3
      omega
theorem asg_root {t : List Node} {m : List (List Int)} {st all : List Int} (g : Good t m st) (h : Asg t m st all) : 0 ≤ solF t m st 0 (aOf all 0) ∧ (∀ v, 0 < v → v < t.length → 0 ≤ solF t m st v (aOf all v) ∧ 0 ≤ moreF t m (solF t m st) all v) ∧
    solF t m st 0 (aOf all 0) + moreTo t m (solF t m st) all (t.length - 1) = costTo t m all (t.length - 1) := by
  have hn0 := g.n0
  obtain ⟨h1, h2, h3⟩ := asg_sum g h (t.length - 1) (Nat.le_refl _)
  refine ⟨h1 0 (by omega), fun v h0 hv => h2 v (by omega) hv, ?_⟩
  rw [show t.length - (t.length - 1) = 0 + 1 by omega, sumI, sumI, Nat.sub_self] at h3
  have e : costTo t m all 0 = 0 := rfl
  rw [e] at h3
  have h3 : 0 + solF t m st 0 (aOf all 0) + 0 + moreTo t m (solF t m st) all (t.length - 1) = costTo t m all (t.length - 1) := h3
  omega
theorem more_nonneg {t : List Node} {m : List (List Int)} {F : Fn2} {all : List Int} (h : ∀ v, 0 < v → v < t.length → 0 ≤ moreF t m F all v) : ∀ k, k ≤ t.length - 1 → 0 ≤ moreTo t m F all k
  | 0, _ => Int.le_refl _
  | k + 1, hk => by
    have h1 := more_nonneg h k (by omega)
    have h2 := h (t.length - 1 - k) (by omega) (by omega)
    rw [moreTo]; omega
theorem more_zero {t : List Node} {m : List (List Int)} {F : Fn2} {all : List Int} (h : ∀ v, 0 < v → v < t.length → moreF t m F all v = 0) : ∀ k, k ≤ t.length - 1 → moreTo t m F all k = 0
  | 0, _ => rfl
  | k + 1, hk => by
    have h1 := more_zero h k (by omega)
    have h2 := h (t.length - 1 - k) (by omega) (by omega)
    rw [moreTo]; omega

/-- no assignment is cheaper -/
theorem opt_lower {t : List Node} {m : List (List Int)} {st all : List Int} (hc : checkE t m st = 0) (h : Asg t m st all) : errP t m st = 0 ∧ minV t m st ≤ costTo t m all (t.length - 1) ∧ minV t m st ≤ solF t m st 0 (aOf all 0) ∧ solF t m st 0 (aOf all 0) ≤ costTo t m all (t.length - 1) := by
  have g := good_of hc
  have hn0 := g.n0
  obtain ⟨h1, h2, h3⟩ := asg_root g h
  have h4 := more_nonneg (fun v h0 hv => (h2 v h0 hv).2) (t.length - 1) (Nat.le_refl _)
  have h0 : aOf all 0 < m.length := by have := h.bd 0 g.n0; rw [aOf]; omega
  rcases bestTo_spec (c := solF t m st 0) (k := m.length) (fun s _ => (g.bd 0 s).1) with ⟨_, e⟩ | ⟨b, e1, e2, e3, e4, e5, e6⟩
  · have := e _ h0; omega
  · have hr : solF t m st 0 b = (rootP t m st).1 := e3
    have he : errP t m st = 0 := by rw [errP, if_pos hc, if_neg (by omega)]
    have hm : minV t m st = solF t m st 0 b := by rw [minV, if_pos he]; exact hr.symm
    refine ⟨he, ?_⟩
    rcases e5 _ h0 with e' | e'
    · omega
    · rw [hm]; omega

/-! the first one is as cheap -/
theorem ini_of_sol {t : List Node} {m : List (List Int)} {st : List Int} (g : Good t m st) {v s : Nat} (hs : s < m.length) (h : solF t m st v s ≠ -1) : iniF t m st v s = 0 := by
  have h0 : 0 ≤ finF t m (iniF t m st) v s := by have := (g.bd v s).1; show 0 ≤ solF t m st v s; omega
  rw [fin_kids g.tree v s hs] at h0
  have h1 := (fold_pos _ _ h0).1
  have h2 := (ini_bd (leavesOf t) st m.length (leavesOf t).length v s).2
  show iniF t m st v s = 0
  have h2 : iniF t m st v s ≤ 0 := h2
  omega
theorem pick_at {t : List Node} {m : List (List Int)} {st : List Int} : ∀ {v u : Nat}, u < v → (pickTo t m st v).getD u 0 = if u = 0 then (rootP t m st).2 else (bestTo (stepF m (solF t m st) u ((pickTo t m st u).getD (parN t u) 0).toNat) m.length).2
  | 0, u, h => by omega
  | v + 1, u, h => by
    rcases Nat.lt_succ_iff_lt_or_eq.1 h with h | h
    · rw [pickTo, getD_front _ _ _ (by rw [pickTo_len]; exact h), pick_at h]
    · subst h
      rw [pickTo, getD_last _ _ _ (pickTo_len t m st u).symm]
theorem opt_best {t : List Node} {m : List (List Int)} {st : List Int} (he : errP t m st = 0) : Asg t m st (bestV t m st) ∧ costTo t m (bestV t m st) (t.length - 1) = minV t m st ∧ (∀ v, 0 < v → v < t.length → (bestV t m st).getD v 0 = (bestTo (stepF m (solF t m st) v (aOf (bestV t m st) (parN t v))) m.length).2) ∧ (bestV t m st).getD 0 0 = (rootP t m st).2 := by
  obtain ⟨hc, hr⟩ := errP_zero he
  have g := good_of hc
  have hn0 := g.n0
  have hb : bestV t m st = pickTo t m st t.length := by rw [bestV, if_pos he]
  rw [hb]
  have hpk := pick_good g hr t.length (Nat.le_refl _)
  have hpar : ∀ v, 0 < v → v < t.length → (pickTo t m st v).getD (parN t v) 0 = (pickTo t m st t.length).getD (parN t v) 0 := fun v h0 hv => by
    have hp := (g.par v h0 hv).1
    rw [pick_at hp, pick_at (show parN t v < t.length by omega)]
  have hat : ∀ v, 0 < v → v < t.length → (pickTo t m st t.length).getD v 0 = (bestTo (stepF m (solF t m st) v (aOf (pickTo t m st t.length) (parN t v))) m.length).2 := fun v h0 hv => by
    rw [pick_at hv, if_neg (by omega), hpar v h0 hv]
  have hunder : ∀ v, 0 < v → v < t.length → underF m (solF t m st) v (aOf (pickTo t m st t.length) (parN t v)) ≠ -1 ∧ stepF m (solF t m st) v (aOf (pickTo t m st t.length) (parN t v)) (aOf (pickTo t m st t.length) v) = underF m (solF t m st) v (aOf (pickTo t m st t.length) (parN t v)) := fun v h0 hv => by
    obtain ⟨a, ha1, ha2, ha3⟩ := hpk (parN t v) (by have := (g.par v h0 hv).1; omega)
    have e : aOf (pickTo t m st t.length) (parN t v) = a := by rw [aOf, ha1]; rfl
    rw [e]
    have hu := g.child h0 hv ha2 ha3
    obtain ⟨b, hb1, hb2, hb3, _⟩ := g.underB hu
    refine ⟨hu, ?_⟩
    have e2 : aOf (pickTo t m st t.length) v = b := by rw [aOf, hat v h0 hv, e, hb2]; rfl
    rw [e2]; exact hb3
  have hasg : Asg t m st (pickTo t m st t.length) := by
    refine ⟨pickTo_len _ _ _ _, fun v hv => ?_, fun v hv => ?_, fun v h0 hv => ?_⟩
    · obtain ⟨b, h1, h2, h3⟩ := hpk v hv
      rw [h1]; omega
    · obtain ⟨b, h1, h2, h3⟩ := hpk v hv
      have e : aOf (pickTo t m st t.length) v = b := by rw [aOf, h1]; rfl
      rw [e]
      exact ini_of_sol g h2 h3
    · obtain ⟨h1, h2⟩ := hunder v h0 hv
      intro e
      rw [stepF, if_pos (.inl e)] at h2
      omega
  refine ⟨hasg, ?_, hat, by rw [pick_at hn0, if_pos rfl]⟩
  obtain ⟨h1, h2, h3⟩ := asg_root g hasg
  rw [more_zero (fun v h0 hv => by rw [moreF, (hunder v h0 hv).2]; omega) _ (Nat.le_refl _)] at h3
  obtain ⟨b, hb1, hb2, hb3, _⟩ := g.rootB hr
  have e0 : aOf (pickTo t m st t.length) 0 = b := by rw [aOf, pick_at hn0, if_pos rfl, hb2]; rfl
  rw [e0, hb3] at h3
  rw [minV, if_pos he]
  omega

/-! there is one -/
theorem foldl_pos {l : List Nat} {U : Nat → Nat} {p : Nat → Prop} [DecidablePred p] (h : ∀ w ∈ l, p w → 0 < U w) : ∀ a, 0 < a → 0 < l.foldl (fun a w => if p w then a * U w else a) a := by
  induction l with
  | nil => intro a ha; exact ha
  | cons b r ih =>
    intro a ha
    rw [List.foldl_cons]
    refine ih (fun w hw => h w (List.mem_cons_of_mem _ hw)) _ ?_
    split
    · exact Nat.mul_pos ha (h b (List.mem_cons_self ..) (by assumption))
    · exact ha
theorem swTo_ge {m : List (List Int)} {F : Fn2} {v s b : Nat} {w : Nat → Nat} (hb : isBest m F v s b) : ∀ {k : Nat}, b < k → w b ≤ swTo m F v s w k
  | 0, h => by omega
  | k + 1, h => by
    rw [swTo_succ]
    rcases Nat.lt_succ_iff_lt_or_eq.1 h with h | h
    · have := swTo_ge (w := w) hb h; omega
    · subst h; rw [if_pos hb]; omega
theorem cntTo_ge {c : Nat → Int} {x : Int} {w : Nat → Nat} {b : Nat} (hb : c b = x) : ∀ {k : Nat}, b < k → w b ≤ cntTo c x w k
  | 0, h => by omega
  | k + 1, h => by
    rw [cntTo_succ]
    rcases Nat.lt_succ_iff_lt_or_eq.1 h with h | h
    · have := cntTo_ge (w := w) hb h; omega
    · subst h; rw [if_pos hb]; omega
theorem way_pos {t : List Node} {m : List (List Int)} {st : List Int} (g : Good t m st) : ∀ (d v s : Nat), t.length - v = d → s < m.length → solF t m st v s ≠ -1 → 0 < finW t m (solF t m st) v s := by
  intro d
  induction d using Nat.strongRecOn with
  | ind d ih =>
    intro v s hd hs h
    rw [← accM_fin g.tree v s hs, accM]
    refine foldl_pos (p := fun w => parOf t w = (v : Int)) (fun w hw hp => ?_) 1 (by omega)
    have hw : w < t.length := by simpa using hw
    have hw0 : 0 < w := by
      rcases Nat.eq_zero_or_pos w with e | e
      · rw [e, okTree_root g.tree] at hp; omega
      · exact e
    have hpv := g.par w hw0 hw
    have hpe : parN t w = v := by omega
    have hu := g.child hw0 hw hs (by rw [hpe]; exact h)
    obtain ⟨b, hb1, hb2, hb3, hb4, _⟩ := g.underB hu
    have hbf : solF t m st w b ≠ -1 := by
      intro e
      rw [stepF, if_pos (.inr e)] at hb4
      omega
    have := ih (t.length - w) (by omega) w b rfl hb1 hbf
    have h2 := swTo_ge (w := finW t m (solF t m st) w) (show isBest m (solF t m st) w s b from ⟨hu, hb3⟩) hb1
    omega
theorem ways_pos {t : List Node} {m : List (List Int)} {st : List Int} (he : errP t m st = 0) : 0 < waysN t m st := by
  obtain ⟨hc, hr⟩ := errP_zero he
  have g := good_of hc
  obtain ⟨b, hb1, hb2, hb3, hb4, _⟩ := g.rootB hr
  have h1 := way_pos g _ 0 b rfl hb1 (by omega)
  have h2 := cntTo_ge (w := finW t m (solF t m st) 0) hb3 hb1
  have h3 : waysN t m st = cntTo (solF t m st 0) (rootP t m st).1 (finW t m (solF t m st) 0) m.length := rfl
  omega

end Go.Cp
end
