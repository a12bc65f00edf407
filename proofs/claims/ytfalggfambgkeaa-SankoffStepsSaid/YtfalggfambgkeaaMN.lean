/-
  Sankoff: all costs greater by the same (plain). Conditions: none.
  Sankoff: slices.Repeat of one element. Conditions: none.
-/
import Derived.Test.YtfalggfambgkeaaML

section
set_option linter.unusedVariables false
set_option linter.unusedSimpArgs false
set_option maxHeartbeats 4000000
set_option maxRecDepth 10000
namespace Go.Cp
open Go Go.Proofs Go.Vx

/-- a cost, greater by x if it is possible -/
def plusI (a x : Int) : Int := if a = -1 then -1 else a + x
theorem plusI_m1 {a x : Int} (ha : -1 ≤ a) (hx : 0 ≤ x) : plusI a x = -1 ↔ a = -1 := by rw [plusI]; split <;> omega
theorem plusI_eq {a b x : Int} (ha : -1 ≤ a) (hb : -1 ≤ b) (hx : 0 ≤ x) : plusI a x = plusI b x ↔ a = b := by simp only [plusI]; split <;> split <;> omega
theorem plusI_lt {a b x : Int} (ha : a ≠ -1) (hb : b ≠ -1) : plusI a x < plusI b x ↔ a < b := by rw [plusI, plusI, if_neg ha, if_neg hb]; omega

theorem bestTo_plus {c c' : Nat → Int} {x : Int} (hx : 0 ≤ x) : ∀ {k : Nat}, (∀ s, s < k → -1 ≤ c s ∧ c' s = plusI (c s) x) → -1 ≤ (bestTo c k).1 ∧ bestTo c' k = (plusI (bestTo c k).1 x, (bestTo c k).2)
  | 0, _ => ⟨by simp [bestTo], rfl⟩
  | k + 1, h => by
    obtain ⟨h0, h1⟩ := bestTo_plus hx (k := k) fun s hs => h s (by omega)
    obtain ⟨h2, h3⟩ := h k (by omega)
    rw [bestTo_succ, bestTo_succ, h1, h3]
    have e1 := plusI_m1 h2 hx
    have e2 := plusI_m1 h0 hx
    by_cases hc : c k = -1
    · rw [if_neg (fun e => e.1 hc), if_neg (fun e => e.1 (e1.2 hc))]
      exact ⟨h0, rfl⟩
    · by_cases hb : (bestTo c k).1 = -1
      · rw [if_pos ⟨hc, .inl hb⟩, if_pos ⟨fun e => hc (e1.1 e), .inl (e2.2 hb)⟩]
        exact ⟨h2, rfl⟩
      · have e3 := plusI_lt (x := x) hc hb
        by_cases hl : c k < (bestTo c k).1
        · rw [if_pos ⟨hc, .inr hl⟩, if_pos ⟨fun e => hc (e1.1 e), .inr (e3.2 hl)⟩]
          exact ⟨h2, rfl⟩
        · rw [if_neg (fun e => by rcases e.2 with e | e; exact hb e; exact hl e), if_neg (fun e => by rcases e.2 with e | e; exact hb (e2.1 e); exact hl (e3.1 e))]
          exact ⟨h0, rfl⟩

/-- the matrix m', in which all possible changes cost d more -/
structure Shift (m m' : List (List Int)) (d : Int) : Prop where
  len : m'.length = m.length
  pos : 0 ≤ d
  m1 : ∀ a b, -1 ≤ cellAt m a b
  cell : ∀ a b, a < m.length → b < m.length → cellAt m' a b = plusI (cellAt m a b) d
def RelF (n : Nat) (d : Int) (cnt : Nat → Nat) (F F' : Fn2) : Prop := ∀ v s, s < n → -1 ≤ F v s ∧ F' v s = plusI (F v s) (d * cnt v)

theorem mul_nn {d : Int} (h : 0 ≤ d) (k : Nat) : 0 ≤ d * (k : Int) := Int.mul_nonneg h (Int.natCast_nonneg k)
theorem mul_succ' (d : Int) (k : Nat) : d * ((k + 1 : Nat) : Int) = d * (k : Int) + d := by rw [Int.natCast_add, Int.mul_add]; simp
theorem step_plus {m m' : List (List Int)} {d : Int} {cnt : Nat → Nat} {F F' : Fn2} (hs : Shift m m' d) (hF : RelF m.length d cnt F F') {v a b : Nat} (ha : a < m.length) (hb : b < m.length) :
    -1 ≤ stepF m F v a b ∧ stepF m' F' v a b = plusI (stepF m F v a b) (d * ((cnt v + 1 : Nat) : Int)) := by
  have h1 := hs.m1 a b
  have h2 := hs.cell a b ha hb
  obtain ⟨h3, h4⟩ := hF v b hb
  have hp := hs.pos
  have hq := mul_nn hp (cnt v)
  have e1 := plusI_m1 h1 hp
  have e2 := plusI_m1 h3 hq
  rw [stepF, stepF, h2, h4]
  by_cases hc : cellAt m a b = -1 ∨ F v b = -1
  · rw [if_pos hc, if_pos (by rcases hc with e | e; exact .inl (e1.2 e); exact .inr (e2.2 e))]
    exact ⟨by omega, rfl⟩
  · have hc1 : cellAt m a b ≠ -1 := fun e => hc (.inl e)
    have hc2 : F v b ≠ -1 := fun e => hc (.inr e)
    rw [if_neg hc, if_neg (fun e => hc (by rcases e with e | e; exact .inl (e1.1 e); exact .inr (e2.1 e)))]
    refine ⟨by omega, ?_⟩
    rw [plusI, if_neg hc1, plusI, if_neg hc2, plusI, if_neg (by omega), mul_succ']
    omega
theorem under_plus {m m' : List (List Int)} {d : Int} {cnt : Nat → Nat} {F F' : Fn2} (hs : Shift m m' d) (hF : RelF m.length d cnt F F') {v a : Nat} (ha : a < m.length) :
    -1 ≤ underF m F v a ∧ underF m' F' v a = plusI (underF m F v a) (d * ((cnt v + 1 : Nat) : Int)) ∧ (bestTo (stepF m' F' v a) m'.length).2 = (bestTo (stepF m F v a) m.length).2 := by
  obtain ⟨h1, h2⟩ := bestTo_plus (c := stepF m F v a) (c' := stepF m' F' v a) (mul_nn hs.pos (cnt v + 1)) (k := m.length) fun s hs' => step_plus hs hF ha hs'
  rw [underF, underF, hs.len, h2]
  exact ⟨h1, rfl, rfl⟩
theorem rnd_plus {m m' : List (List Int)} {d : Int} {cnt : Nat → Nat} {F F' : Fn2} (hs : Shift m m' d) (hF : RelF m.length d cnt F F') (v up : Nat) :
    RelF m.length d (fun u => if u = up then cnt up + (cnt v + 1) else cnt u) (rnd m F v up m.length) (rnd m' F' v up m'.length) := by
  intro u s hsn
  obtain ⟨h1, h2⟩ := hF u s hsn
  obtain ⟨h3, h4, _⟩ := under_plus hs hF (v := v) hsn
  simp only [rnd, hs.len]
  by_cases hu : u = up
  · subst hu
    rw [if_pos ⟨rfl, hsn⟩, if_pos ⟨rfl, hsn⟩, if_pos rfl, h2, h4]
    have e1 := plusI_m1 h1 (mul_nn hs.pos (cnt u))
    have e2 := plusI_m1 h3 (mul_nn hs.pos (cnt v + 1))
    have p1 := mul_nn hs.pos (cnt u)
    have p2 := mul_nn hs.pos (cnt v + 1)
    have hsum : d * ((cnt u + (cnt v + 1) : Nat) : Int) = d * (cnt u : Int) + d * ((cnt v + 1 : Nat) : Int) := by rw [Int.natCast_add, Int.mul_add]
    rw [comb, comb]
    by_cases ha : F u s = -1
    · rw [if_pos (by omega), if_pos (by rw [ha, plusI, plusI]; omega)]
      exact ⟨by omega, rfl⟩
    · by_cases hb : underF m F v s = -1
      · rw [if_pos (by omega), if_pos (by rw [hb, plusI, plusI]; omega)]
        exact ⟨by omega, rfl⟩
      · rw [if_neg (by omega), plusI, if_neg hb, plusI, if_neg ha, if_neg (by omega), plusI, if_neg (by omega), hsum]
        exact ⟨by omega, by omega⟩
  · rw [if_neg (fun e => hu e.1), if_neg (fun e => hu e.1), if_neg hu]
    exact ⟨h1, h2⟩
theorem cost_plus {t : List Node} {m m' : List (List Int)} {d : Int} {F : Fn2} (hs : Shift m m' d) (hF : ∀ v s, -1 ≤ F v s) : ∀ k, RelF m.length d (cntF t k) (costF t m F k) (costF t m' F k)
  | 0 => fun v s _ => ⟨hF v s, by
    show F v s = plusI (F v s) (d * ((0 : Nat) : Int))
    rw [plusI]; split <;> simp_all⟩
  | k + 1 => rnd_plus hs (cost_plus hs hF k) _ _

theorem cnt_root {t : List Node} (h0 : 0 < t.length) (hp : ∀ v, 0 < v → v < t.length → parN t v < v) : cntF t (t.length - 1) 0 = t.length - 1 := by
  have := (cnt_sum hp (t.length - 1) (by omega)).1
  rw [show t.length - (t.length - 1) = 1 by omega] at this
  simpa [sumTo] using this

section
variable {t : List Node} {m m' : List (List Int)} {st : List Int} {d : Int}
theorem sol_plus (hs : Shift m m' d) (v s : Nat) (h : s < m.length) : -1 ≤ solF t m st v s ∧ solF t m' st v s = plusI (solF t m st v s) (d * cntF t (t.length - 1) v) := by
  have := cost_plus (t := t) (F := iniF t m st) hs (fun v s => (ini_bd _ _ _ _ _ _).1) (t.length - 1) v s h
  rw [solF, solF, finF, finF, show iniF t m' st = iniF t m st by rw [iniF, iniF, hs.len]]
  exact this
theorem root_plus (hs : Shift m m' d) : -1 ≤ (rootP t m st).1 ∧ rootP t m' st = (plusI (rootP t m st).1 (d * cntF t (t.length - 1) 0), (rootP t m st).2) := by
  rw [rootP, rootP, hs.len]
  exact bestTo_plus (mul_nn hs.pos _) fun s h => sol_plus hs 0 s h
theorem relS (hs : Shift m m' d) : RelF m.length d (cntF t (t.length - 1)) (solF t m st) (solF t m' st) := fun v s h => sol_plus hs v s h
theorem err_plus (hs : Shift m m' d) (hc : checkE t m st = 0) (hc' : checkE t m' st = 0) : errP t m' st = errP t m st := by
  obtain ⟨h1, h2⟩ := root_plus (t := t) (st := st) hs
  have e := plusI_m1 h1 (mul_nn hs.pos (cntF t (t.length - 1) 0))
  rw [errP, errP, if_pos hc, if_pos hc', h2]
  by_cases hr : (rootP t m st).1 = -1
  · rw [if_pos hr, if_pos (e.2 hr)]
  · rw [if_neg hr, if_neg (fun h => hr (e.1 h))]
theorem min_plus (hs : Shift m m' d) (hc : checkE t m st = 0) (hc' : checkE t m' st = 0) (he : errP t m st = 0) : minV t m' st = minV t m st + d * ((t.length : Int) - 1) := by
  have g := good_of hc
  obtain ⟨h1, h2⟩ := root_plus (t := t) (st := st) hs
  have hr : (rootP t m st).1 ≠ -1 := fun h => by rw [errP, if_pos hc, if_pos h] at he; omega
  have hn := g.n0
  rw [minV, minV, if_pos he, if_pos ((err_plus hs hc hc').trans he), h2, cnt_root g.n0 fun v h0 hv => (g.par v h0 hv).1]
  rw [plusI, if_neg hr, show ((t.length - 1 : Nat) : Int) = (t.length : Int) - 1 by omega]
theorem roots_plus (hs : Shift m m' d) (hc : checkE t m st = 0) (hc' : checkE t m' st = 0) : rootsV t m' st = rootsV t m st := by
  obtain ⟨h1, h2⟩ := root_plus (t := t) (st := st) hs
  rw [rootsV, rootsV, err_plus hs hc hc']
  split
  · rename_i he
    rw [rootsTo, rootsTo, hs.len, h2]
    congr 1
    refine List.filter_congr fun s hs' => ?_
    have hs' : s < m.length := by simpa using hs'
    obtain ⟨h3, h4⟩ := sol_plus (t := t) (st := st) hs 0 s hs'
    have := plusI_eq h3 h1 (mul_nn hs.pos (cntF t (t.length - 1) 0))
    rw [h4]
    exact decide_eq_decide.2 this
  · rfl
theorem pick_plus (hs : Shift m m' d) (g : Good t m st) (hr : (rootP t m st).1 ≠ -1) : ∀ v, v ≤ t.length → pickTo t m' st v = pickTo t m st v
  | 0, _ => rfl
  | v + 1, hv => by
    rw [pickTo, pickTo, pick_plus hs g hr v (by omega)]
    congr 2
    by_cases h0 : v = 0
    · rw [if_pos h0, if_pos h0, (root_plus (t := t) (st := st) hs).2]
    · rw [if_neg h0, if_neg h0]
      obtain ⟨b, h1, h2, _⟩ := pick_good g hr v (by omega) (parN t v) (g.par v (by omega) (by omega)).1
      rw [h1]
      exact (under_plus hs (relS hs) h2).2.2
theorem best_plus (hs : Shift m m' d) (hc : checkE t m st = 0) (hc' : checkE t m' st = 0) : bestV t m' st = bestV t m st := by
  rw [bestV, bestV, err_plus hs hc hc']
  split
  · rename_i he
    have hr : (rootP t m st).1 ≠ -1 := fun h => by rw [errP, if_pos hc, if_pos h] at he; omega
    exact pick_plus hs (good_of hc) hr _ (Nat.le_refl _)
  · rfl
theorem isBest_plus (hs : Shift m m' d) {v s b : Nat} (hsn : s < m.length) (hb : b < m.length) : isBest m' (solF t m' st) v s b ↔ isBest m (solF t m st) v s b := by
  obtain ⟨h1, h2, _⟩ := under_plus hs (relS (t := t) (st := st) hs) (v := v) hsn
  obtain ⟨h3, h4⟩ := step_plus hs (relS (t := t) (st := st) hs) (v := v) hsn hb
  have hp := mul_nn hs.pos (cntF t (t.length - 1) v + 1)
  rw [isBest, isBest, h2, h4]
  rw [Ne, plusI_m1 h1 hp, plusI_eq h3 h1 hp]
theorem sw_plus (hs : Shift m m' d) {v s : Nat} (hsn : s < m.length) {w w' : Nat → Nat} (hw : ∀ b, b < m.length → w' b = w b) : ∀ k, k ≤ m.length → swTo m' (solF t m' st) v s w' k = swTo m (solF t m st) v s w k
  | 0, _ => rfl
  | k + 1, hk => by
    rw [swTo_succ, swTo_succ, sw_plus hs hsn hw k (by omega), hw k (by omega)]
    congr 1
    by_cases h : isBest m (solF t m st) v s k
    · rw [if_pos h, if_pos ((isBest_plus hs hsn (by omega)).2 h)]
    · rw [if_neg h, if_neg (fun e => h ((isBest_plus hs hsn (by omega)).1 e))]
theorem way_plus (hs : Shift m m' d) : ∀ k v s, s < m.length → wayF t m' (solF t m' st) k v s = wayF t m (solF t m st) k v s
  | 0, v, s, h => by rw [wayF, wayF, hs.len]
  | k + 1, v, s, h => by
    rw [wayF, wayF, wayR, wayR, hs.len, way_plus hs k _ s h, way_plus hs k v s h, sw_plus hs h (fun b hb => way_plus hs k _ b hb) _ (Nat.le_refl _)]
theorem ways_plus (hs : Shift m m' d) : waysN t m' st = waysN t m st := by
  obtain ⟨h1, h2⟩ := root_plus (t := t) (st := st) hs
  have key : ∀ k, k ≤ m.length → cntTo (solF t m' st 0) (rootP t m' st).1 (wayF t m' (solF t m' st) (t.length - 1) 0) k = cntTo (solF t m st 0) (rootP t m st).1 (wayF t m (solF t m st) (t.length - 1) 0) k := by
    intro k
    induction k with
    | zero => exact fun _ => rfl
    | succ k ih =>
      intro hk
      rw [cntTo_succ, cntTo_succ, ih (by omega), way_plus hs _ _ _ (by omega)]
      congr 1
      obtain ⟨h3, h4⟩ := sol_plus (t := t) (st := st) hs 0 k (by omega)
      have := plusI_eq h3 h1 (mul_nn hs.pos (cntF t (t.length - 1) 0))
      rw [h4, h2]
      by_cases h : solF t m st 0 k = (rootP t m st).1
      · rw [if_pos h, if_pos (this.2 h)]
      · rw [if_neg h, if_neg (fun e => h (this.1 e))]
  rw [waysN, waysN, hs.len]
  exact key _ (Nat.le_refl _)
theorem errW_plus (hs : Shift m m' d) (hc : checkE t m st = 0) (hc' : checkE t m' st = 0) : errW t m' st = errW t m st ∧ waysV t m' st = waysV t m st := by
  have h : errW t m' st = errW t m st := by rw [errW, errW, err_plus hs hc hc', ways_plus hs]
  exact ⟨h, by rw [waysV, waysV, h, ways_plus hs]⟩
end

/-! ### nothing costs anything -/
theorem bestTo_zero {c : Nat → Int} : ∀ {k : Nat}, (∀ s, s < k + 1 → c s = 0) → bestTo c (k + 1) = (0, 0)
  | 0, h => by rw [bestTo_succ, if_pos ⟨by rw [h 0 (by omega)]; omega, .inl rfl⟩, h 0 (by omega)]; rfl
  | k + 1, h => by
    rw [bestTo_succ, bestTo_zero (k := k) fun s hs => h s (by omega), if_neg]
    rw [h (k + 1) (by omega)]
    simp
structure Zero (m : List (List Int)) (n : Nat) : Prop where
  len : m.length = n + 1
  cell : ∀ a b, a < n + 1 → b < n + 1 → cellAt m a b = 0
section
variable {t : List Node} {m : List (List Int)} {n : Nat}
theorem step_zero (hz : Zero m n) {F : Fn2} {v a b : Nat} (hF : ∀ s, s < n + 1 → F v s = 0) (ha : a < n + 1) (hb : b < n + 1) : stepF m F v a b = 0 := by
  rw [stepF, hz.cell a b ha hb, hF b hb]; simp
theorem under_zero (hz : Zero m n) {F : Fn2} {v a : Nat} (hF : ∀ s, s < n + 1 → F v s = 0) (ha : a < n + 1) : underF m F v a = 0 := by
  rw [underF, hz.len, bestTo_zero fun s hs => step_zero hz hF ha hs]
theorem cost_zero (hz : Zero m n) {F : Fn2} (hF : ∀ v s, s < n + 1 → F v s = 0) : ∀ k v s, s < n + 1 → costF t m F k v s = 0
  | 0, v, s, h => hF v s h
  | k + 1, v, s, h => by
    rw [costF, rnd, cost_zero hz hF k v s h]
    split
    · rw [cost_zero hz hF k _ s h, under_zero hz (fun s hs => cost_zero hz hF k _ s hs) h]; rfl
    · rfl
theorem sw_zero (hz : Zero m n) {F : Fn2} (hF : ∀ v s, s < n + 1 → F v s = 0) {v s x : Nat} (hs : s < n + 1) {w : Nat → Nat} (hw : ∀ b, b < n + 1 → w b = x) : ∀ k, k ≤ n + 1 → swTo m F v s w k = k * x
  | 0, _ => by simp [swTo]
  | k + 1, hk => by
    have hb : isBest m F v s k := by
      rw [isBest, under_zero hz (hF v) hs, step_zero hz (hF v) hs (by omega)]
      exact ⟨by omega, rfl⟩
    rw [swTo_succ, sw_zero hz hF hs hw k (by omega), if_pos hb, hw k (by omega), Nat.succ_mul]
theorem way_zero (hz : Zero m n) {F : Fn2} (hF : ∀ v s, s < n + 1 → F v s = 0) : ∀ k v s, s < n + 1 → wayF t m F k v s = (n + 1) ^ cntF t k v
  | 0, v, s, h => by
    show way0 m.length v s = (n + 1) ^ 0
    rw [way0, hz.len, if_pos h]; rfl
  | k + 1, v, s, h => by
    rw [wayF, wayR, hz.len]
    have e : cntF t (k + 1) v = if v = parN t (t.length - 1 - k) then cntF t k (parN t (t.length - 1 - k)) + (cntF t k (t.length - 1 - k) + 1) else cntF t k v := rfl
    by_cases hv : v = parN t (t.length - 1 - k)
    · rw [if_pos ⟨hv, h⟩, e, if_pos hv, way_zero hz hF k _ s h, sw_zero hz hF h (fun b hb => way_zero hz hF k _ b hb) _ (Nat.le_refl _)]
      rw [Nat.pow_add, Nat.pow_succ, Nat.mul_comm ((n + 1) ^ cntF t k (t.length - 1 - k))]
    · rw [if_neg (fun e => hv e.1), e, if_neg hv, way_zero hz hF k v s h]
theorem over_plain (hz : Zero m n) (hc : checkE t m (List.replicate (leavesOf t).length (-1)) = 0) : errP t m (List.replicate (leavesOf t).length (-1)) = 0 ∧ waysN t m (List.replicate (leavesOf t).length (-1)) = (n + 1) ^ t.length := by
  obtain ⟨W, hW⟩ : ∃ W : List Int, List.replicate (leavesOf t).length (-1) = W := ⟨_, rfl⟩
  have hini : ∀ v s, s < n + 1 → iniF t m W v s = 0 := fun v s hs => by
    rcases ini_free (t := t) (m := m) (v := v) (s := s) (by rw [hz.len]; exact hs) (k := (leavesOf t).length) with h | h
    · rw [← hW]; exact h
    · omega
  rw [hW] at hc ⊢
  have g := good_of hc
  have hsol : ∀ v s, s < n + 1 → solF t m W v s = 0 := fun v s hs => cost_zero hz hini _ v s hs
  have hroot : rootP t m W = (0, 0) := by rw [rootP, hz.len, bestTo_zero fun s hs => hsol 0 s hs]
  refine ⟨by rw [errP, if_pos hc, hroot]; rfl, ?_⟩
  have key : ∀ k, k ≤ n + 1 → cntTo (solF t m W 0) 0 (wayF t m (solF t m W) (t.length - 1) 0) k = k * (n + 1) ^ (t.length - 1) := by
    intro k
    induction k with
    | zero => intro _; simp [cntTo]
    | succ k ih =>
      intro hk
      rw [cntTo_succ, ih (by omega), if_pos (hsol 0 k (by omega)), way_zero hz hsol _ _ _ (by omega), cnt_root g.n0 fun v h0 hv => (g.par v h0 hv).1, Nat.succ_mul]
  rw [waysN, hroot, hz.len, key _ (Nat.le_refl _)]
  have hn := g.n0
  obtain ⟨L, hL⟩ : ∃ L, t.length = L + 1 := ⟨t.length - 1, by omega⟩
  rw [hL, Nat.add_sub_cancel, Nat.pow_succ, Nat.mul_comm]
end

end Go.Cp
end

section
set_option linter.unusedVariables false
set_option linter.unusedSimpArgs false
set_option maxHeartbeats 4000000
set_option maxRecDepth 10000
namespace Go.Cp
open Go Go.Proofs Go.Vx

theorem Mul_ok (x y : Nat) (hx : x < 18446744073709551616) (hy : y < 18446744073709551616) : Ok Try.prog E 45 [uv x, uv y] (.tp [uv (x * y / 18446744073709551616), uv (x * y % 18446744073709551616)]) := by
  refine ok_of_vc (L := []) (ts := [4, 5]) envOK mixed Try.func45 rfl (by kernel_rfl) rfl (by kernel_rfl) rfl fun hl => ?_
  simp only [Try.f45, uv, VZ, BEq.rfl, seval, -Int.reduceNatCast', kAgg, scD, List.all_cons, List.all_nil]
  refine CallX.mk (Mul64_ok x y hx hy) rfl ?_
  simp only [uv, VZ, BEq.rfl, seval, -Int.reduceNatCast', kAgg, scD, List.all_cons, List.all_nil]

/-- k elements are there already -/
def repN (a : Int) (c k : Nat) : List Int := List.replicate k a ++ List.replicate (c - k) 0
theorem repN_len {a : Int} {c k : Nat} (h : k ≤ c) : (repN a c k).length = c := by simp [repN]; omega
theorem repN_all (a : Int) (c : Nat) : repN a c c = List.replicate c a := by simp [repN]
theorem repN_zero (a : Int) (c : Nat) : (repN a c 0).map num = List.replicate c [.sc (.int .i64 0)] := by simp [repN, num]
theorem laid_map (xs ys : List Int) (lo n : Nat) : Vx.laid (xs.map num) (ys.map num) lo n = (xs.take lo ++ (ys.take n ++ xs.drop (lo + min n ys.length))).map num := by
  simp [Vx.laid]
theorem rep_first (a : Int) (c : Nat) : Vx.laid ((repN a c 0).map num) [num a] 0 c = (repN a c (min c 1)).map num := by
  have := laid_map (repN a c 0) [a] 0 c
  simp only [List.map_cons, List.map_nil] at this
  rw [this]
  congr 1
  cases c with
  | zero => simp [repN]
  | succ c => simp [repN, List.replicate_succ]
theorem rep_take {a : Int} {c k : Nat} (h : k ≤ c) : (repN a c k).take k = List.replicate k a := by simp [repN, List.take_append]
theorem rep_more {a : Int} {c k : Nat} (h : k ≤ c) : Vx.laid ((repN a c k).map num) (((repN a c k).map num).take k) k (c - k) = (repN a c (k + min (c - k) k)).map num := by
  rw [← List.map_take, rep_take h, laid_map, rep_take h]
  congr 1
  have h1 : (List.replicate k a).take (c - k) = List.replicate (min (c - k) k) a := by simp [List.take_replicate]
  have h2 : (repN a c k).drop (k + min (c - k) k) = List.replicate (c - (k + min (c - k) k)) 0 := by
    simp [repN, List.drop_append, List.drop_replicate]; omega
  rw [h1, List.length_replicate, h2, repN, ← List.append_assoc, List.replicate_append_replicate]
theorem rep_rows {a : Int} {c k : Nat} : AllLen 1 ((repN a c k).map num) := allLen_num _
theorem rep_rows2 {a : Int} {c k j : Nat} : AllLen 1 (((repN a c k).map num).take j) := fun y hy => allLen_num _ y (List.mem_of_mem_take hy)

theorem RepI_ok (a : Int) (c : Nat) (hc : c ≤ 1000) : Ok Try.prog E 36 [.c (nums [a]), nv c] (.fr 3 ((List.replicate c a).map num)) := by
  refine ok_of_vc (L := []) (ts := [4]) envOK mixed Try.func36 rfl (by kernel_rfl) rfl (by kernel_rfl) rfl fun hl => ?_
  have w1 : IntKind.u64.wrap (1 : Int) = ((1 : Nat) : Int) := by rw [wraps_u64 _ (by omega) (by omega)]; rfl
  have w2 : IntKind.u64.wrap (c : Int) = (c : Int) := wraps_u64 _ (by omega) (by omega)
  have w3 : IntKind.i64.wrap (c : Int) = (c : Int) := wrap_in (by omega) (by omega)
  have g0 : decide ((c : Int) < 0) = false := decide_eq_false (by omega)
  have n1 : ((0 + 1 : Nat) : Int) = 1 := rfl
  simp only [Try.f36, g0, n1, w1, w2, nums, nv, uv, VZ, BEq.rfl, seval, -Int.reduceNatCast', kAgg, scD, List.all_cons, List.all_nil]
  refine CallX.mk (Mul_ok 1 c (by omega) (by omega)) rfl ?_
  have m1 : 1 * c / 18446744073709551616 = 0 := by omega
  have m2 : 1 * c % 18446744073709551616 = c := by omega
  have g1 : decide ((0 : Int) < ((0 : Nat) : Int)) = false := rfl
  have g2 : decide ((9223372036854775807 : Int) < (c : Int)) = false := decide_eq_false (by omega)
  simp only [m1, m2, g1, g2, w3, List.length_replicate, nums, nv, uv, VZ, BEq.rfl, seval, -Int.reduceNatCast', kAgg, scD, List.all_cons, List.all_nil]
  have f0 := rep_first a c
  rw [repN_zero] at f0
  simp only [f0]
  refine ⟨⟨Int.natCast_nonneg c, by omega⟩, ⟨allLen_num [a], Nat.le_refl _⟩, ?_⟩
  refine LoopVC.mk (Y := Nat) (fun k => k ≤ c ∧ (k = 0 → c = 0)) (fun k => ⟨[(7, .osl 30 0), (8, nv k)], [(30, .arr 3 0 ((repN a c k).map num))]⟩) (fun k => c - k) ⟨min c 1, Enter.id ?_, by omega, by omega⟩ ?_
  · simp only [nums, nv, uv, VZ, BEq.rfl, seval, -Int.reduceNatCast', kAgg, scD, List.all_cons, List.all_nil]
  rintro k ⟨hk, hk0⟩
  have hl1 := repN_len (a := a) hk
  have hmo := rep_more (a := a) hk
  have hro := rep_rows (a := a) (c := c) (k := k)
  have hro2 := rep_rows2 (a := a) (c := c) (k := k) (j := k)
  have hall := repN_all a c
  obtain ⟨R, hR⟩ : ∃ R, repN a c k = R := ⟨_, rfl⟩
  simp only [hR] at hl1 hmo hro hro2 ⊢
  simp only [lt_nat, hl1, nums, nv, uv, VZ, BEq.rfl, seval, -Int.reduceNatCast', kAgg, scD, List.all_cons, List.all_nil]
  refine guardB.mk (fun h => ?_) (fun h => ?_)
  · have hk' : k < c := by simpa using h
    clear h
    have w4 : IntKind.i64.wrap ((k : Int) + ((min (c - k) k : Nat) : Int)) = ((k + min (c - k) k : Nat) : Int) := by rw [wrap_in (by omega) (by omega)]; omega
    have hmin : min k c = k := by omega
    simp only [hl1, hmo, w4, List.length_take, Nat.sub_zero, hmin, nums, nv, uv, VZ, BEq.rfl, seval, -Int.reduceNatCast', kAgg, scD, List.all_cons, List.all_nil]
    refine ⟨⟨⟨Int.natCast_nonneg k, by omega, Int.le_refl _⟩, hro⟩, ⟨⟨Int.le_refl _, Int.natCast_nonneg k, by omega⟩, hro⟩, ⟨hro2, by omega⟩, k + min (c - k) k, Enter.id ?_, ⟨by omega, by omega⟩, by show c - (k + min (c - k) k) < c - k; omega⟩
    simp only [nums, nv, uv, VZ, BEq.rfl, seval, -Int.reduceNatCast', kAgg, scD, List.all_cons, List.all_nil]
  · have hk' : k = c := by
      have : ¬ k < c := by simpa using h
      omega
    subst hk'
    rw [hall] at hR
    subst hR
    simp only [nums, nv, uv, VZ, BEq.rfl, seval, -Int.reduceNatCast', kAgg, scD, List.all_cons, List.all_nil]
theorem RepL_ok (a : Int) (c : Nat) (hc : c ≤ 1000) : Ok Try.prog E 16 [.c (nums [a]), nv c] (.fr 2 ((List.replicate c a).map num)) := by
  refine ok_of_vc (L := []) (ts := [4]) envOK mixed Try.func16 rfl (by kernel_rfl) rfl (by kernel_rfl) rfl fun hl => ?_
  have w1 : IntKind.u64.wrap (1 : Int) = ((1 : Nat) : Int) := by rw [wraps_u64 _ (by omega) (by omega)]; rfl
  have w2 : IntKind.u64.wrap (c : Int) = (c : Int) := wraps_u64 _ (by omega) (by omega)
  have w3 : IntKind.i64.wrap (c : Int) = (c : Int) := wrap_in (by omega) (by omega)
  have g0 : decide ((c : Int) < 0) = false := decide_eq_false (by omega)
  have n1 : ((0 + 1 : Nat) : Int) = 1 := rfl
  simp only [Try.f16, g0, n1, w1, w2, nums, nv, uv, VZ, BEq.rfl, seval, -Int.reduceNatCast', kAgg, scD, List.all_cons, List.all_nil]
  refine CallX.mk (Mul_ok 1 c (by omega) (by omega)) rfl ?_
  have m1 : 1 * c / 18446744073709551616 = 0 := by omega
  have m2 : 1 * c % 18446744073709551616 = c := by omega
  have g1 : decide ((0 : Int) < ((0 : Nat) : Int)) = false := rfl
  have g2 : decide ((9223372036854775807 : Int) < (c : Int)) = false := decide_eq_false (by omega)
  simp only [m1, m2, g1, g2, w3, List.length_replicate, nums, nv, uv, VZ, BEq.rfl, seval, -Int.reduceNatCast', kAgg, scD, List.all_cons, List.all_nil]
  have f0 := rep_first a c
  rw [repN_zero] at f0
  simp only [f0]
  refine ⟨⟨Int.natCast_nonneg c, by omega⟩, ⟨allLen_num [a], Nat.le_refl _⟩, ?_⟩
  refine LoopVC.mk (Y := Nat) (fun k => k ≤ c ∧ (k = 0 → c = 0)) (fun k => ⟨[(7, .osl 30 0), (8, nv k)], [(30, .arr 2 0 ((repN a c k).map num))]⟩) (fun k => c - k) ⟨min c 1, Enter.id ?_, by omega, by omega⟩ ?_
  · simp only [nums, nv, uv, VZ, BEq.rfl, seval, -Int.reduceNatCast', kAgg, scD, List.all_cons, List.all_nil]
  rintro k ⟨hk, hk0⟩
  have hl1 := repN_len (a := a) hk
  have hmo := rep_more (a := a) hk
  have hro := rep_rows (a := a) (c := c) (k := k)
  have hro2 := rep_rows2 (a := a) (c := c) (k := k) (j := k)
  have hall := repN_all a c
  obtain ⟨R, hR⟩ : ∃ R, repN a c k = R := ⟨_, rfl⟩
  simp only [hR] at hl1 hmo hro hro2 ⊢
  simp only [lt_nat, hl1, nums, nv, uv, VZ, BEq.rfl, seval, -Int.reduceNatCast', kAgg, scD, List.all_cons, List.all_nil]
  refine guardB.mk (fun h => ?_) (fun h => ?_)
  · have hk' : k < c := by simpa using h
    clear h
    have w4 : IntKind.i64.wrap ((k : Int) + ((min (c - k) k : Nat) : Int)) = ((k + min (c - k) k : Nat) : Int) := by rw [wrap_in (by omega) (by omega)]; omega
    have hmin : min k c = k := by omega
    simp only [hl1, hmo, w4, List.length_take, Nat.sub_zero, hmin, nums, nv, uv, VZ, BEq.rfl, seval, -Int.reduceNatCast', kAgg, scD, List.all_cons, List.all_nil]
    refine ⟨⟨⟨Int.natCast_nonneg k, by omega, Int.le_refl _⟩, hro⟩, ⟨⟨Int.le_refl _, Int.natCast_nonneg k, by omega⟩, hro⟩, ⟨hro2, by omega⟩, k + min (c - k) k, Enter.id ?_, ⟨by omega, by omega⟩, by show c - (k + min (c - k) k) < c - k; omega⟩
    simp only [nums, nv, uv, VZ, BEq.rfl, seval, -Int.reduceNatCast', kAgg, scD, List.all_cons, List.all_nil]
  · have hk' : k = c := by
      have : ¬ k < c := by simpa using h
      omega
    subst hk'
    rw [hall] at hR
    subst hR
    simp only [nums, nv, uv, VZ, BEq.rfl, seval, -Int.reduceNatCast', kAgg, scD, List.all_cons, List.all_nil]

end Go.Cp
end
