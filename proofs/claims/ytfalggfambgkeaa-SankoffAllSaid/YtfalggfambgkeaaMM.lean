/-
  Sankoff: all assignments in their order; how many of them are the cheapest. Plain. Conditions: none.
  Sankoff: the assignments in their order: the cheapest ones, the first of them, their number. Plain. Conditions: none.
  Sankoff: what going over all assignments gives. Plain. Conditions: none.
  Sankoff: the next assignment. Conditions: none.
-/
import Derived.Test.YtfalggfambgkeaaML

section
set_option linter.unusedVariables false
set_option linter.unusedSimpArgs false
set_option maxHeartbeats 4000000
set_option maxRecDepth 10000
namespace Go.Cp
open Go Go.Proofs Go.Vx

/-- all lists of N numbers below n, in lexicographic order -/
def allS (n : Nat) : Nat → List (List Nat)
  | 0 => [[]]
  | N + 1 => (List.range n).flatMap fun b => (allS n N).map (b :: ·)
theorem allS_len (n : Nat) : ∀ N, (allS n N).length = n ^ N
  | 0 => rfl
  | N + 1 => by
    have h : ∀ k, ((List.range k).flatMap fun b => (allS n N).map (b :: ·)).length = k * n ^ N := fun k => by
      induction k with
      | zero => simp
      | succ k ih => rw [List.range_succ, List.flatMap_append, List.length_append, ih]; simp [allS_len n N, Nat.add_mul]
    rw [allS, h, Nat.pow_succ, Nat.mul_comm]
theorem mem_allS {n : Nat} : ∀ {N : Nat} {A : List Nat}, A ∈ allS n N ↔ A.length = N ∧ ∀ b ∈ A, b < n
  | 0, A => by
    simp only [allS, List.mem_singleton]
    exact ⟨fun h => by subst h; simp, fun h => List.eq_nil_of_length_eq_zero h.1⟩
  | N + 1, A => by
    simp only [allS, List.mem_flatMap, List.mem_map, List.mem_range]
    constructor
    · rintro ⟨b, hb, A', hA', rfl⟩
      obtain ⟨h1, h2⟩ := mem_allS.1 hA'
      refine ⟨by simp [h1], fun c hc => ?_⟩
      rcases List.mem_cons.1 hc with rfl | hc
      · exact hb
      · exact h2 c hc
    · rintro ⟨h1, h2⟩
      match A, h1 with
      | b :: A', h1 =>
        exact ⟨b, h2 b (List.mem_cons_self ..), A', mem_allS.2 ⟨by simpa using h1, fun c hc => h2 c (List.mem_cons_of_mem _ hc)⟩, rfl⟩
/-- the next one -/
def nextN (n : Nat) : List Nat → Option (List Nat)
  | [] => none
  | b :: A => match nextN n A with
    | some A' => some (b :: A')
    | none => if b + 1 < n then some ((b + 1) :: List.replicate A.length 0) else none
theorem nextN_len {n : Nat} : ∀ {A A' : List Nat}, nextN n A = some A' → A'.length = A.length
  | [], _, h => by simp [nextN] at h
  | b :: A, A', h => by
    rw [nextN] at h
    cases hn : nextN n A with
    | some A2 =>
      rw [hn] at h
      injection h with h
      rw [← h, List.length_cons, List.length_cons, nextN_len hn]
    | none =>
      rw [hn] at h
      simp only at h
      split at h
      · injection h with h
        rw [← h]; simp
      · cases h
theorem allS_head (n : Nat) (hn : 0 < n) : ∀ N, (allS n N)[0]? = some (List.replicate N 0)
  | 0 => rfl
  | N + 1 => by
    obtain ⟨k, rfl⟩ : ∃ k, n = k + 1 := ⟨n - 1, by omega⟩
    rw [allS, List.range_succ_eq_map, List.flatMap_cons, List.getElem?_append_left (by rw [List.length_map, allS_len]; exact Nat.pow_pos (by omega)), List.getElem?_map, allS_head (k + 1) hn N]
    rfl
theorem block_at (n N : Nat) : ∀ (k b i : Nat), b < k → i < n ^ N → ((List.range k).flatMap fun b => (allS n N).map (b :: ·))[b * n ^ N + i]? = ((allS n N)[i]?).map (b :: ·)
  | 0, b, i, h, _ => by omega
  | k + 1, b, i, h, hi => by
    have hlen : ((List.range k).flatMap fun b => (allS n N).map (b :: ·)).length = k * n ^ N := by
      clear h
      induction k with
      | zero => simp
      | succ k ih => rw [List.range_succ, List.flatMap_append, List.length_append, ih]; simp [allS_len n N, Nat.add_mul]
    rw [List.range_succ, List.flatMap_append]
    rcases Nat.lt_succ_iff_lt_or_eq.1 h with h | h
    · have h1 : b * n ^ N + i < k * n ^ N := by
        have := Nat.mul_le_mul_right (n ^ N) (show b + 1 ≤ k from h)
        rw [Nat.add_mul] at this
        omega
      rw [List.getElem?_append_left (by omega), block_at n N k b i h hi]
    · subst h
      rw [List.getElem?_append_right (by omega), hlen, Nat.add_sub_cancel_left]
      simp
theorem next_spec (n : Nat) (hn : 0 < n) : ∀ (N i : Nat) (A : List Nat), (allS n N)[i]? = some A → nextN n A = (allS n N)[i + 1]?
  | 0, i, A, h => by
    match i, h with
    | 0, h =>
      simp only [allS, List.getElem?_cons_zero, Option.some.injEq] at h
      subst h; rfl
    | i + 1, h => simp [allS] at h
  | N + 1, i, A, h => by
    have hlt : i < n ^ (N + 1) := by
      have := (List.getElem?_eq_some_iff.1 h).1
      rwa [allS_len] at this
    have hpos : 0 < n ^ N := Nat.pow_pos hn
    have hb : i / n ^ N < n := by
      rw [Nat.div_lt_iff_lt_mul hpos]
      rw [Nat.pow_succ, Nat.mul_comm] at hlt
      exact hlt
    have hr : i % n ^ N < n ^ N := Nat.mod_lt _ hpos
    have hi : i = i / n ^ N * n ^ N + i % n ^ N := by rw [Nat.mul_comm]; exact (Nat.div_add_mod i (n ^ N)).symm
    obtain ⟨b, hbe⟩ : ∃ b, i / n ^ N = b := ⟨_, rfl⟩
    obtain ⟨r, hre⟩ : ∃ r, i % n ^ N = r := ⟨_, rfl⟩
    rw [hbe] at hb hi
    rw [hre] at hr hi
    rw [allS, hi, block_at n N n b r hb hr] at h
    cases hA : (allS n N)[r]? with
    | none => rw [hA] at h; cases h
    | some A1 =>
      rw [hA] at h
      injection h with h
      subst h
      have ih := next_spec n hn N r A1 hA
      have hl1 : A1.length = N := (mem_allS.1 (List.mem_of_getElem? hA)).1
      rw [nextN, ih, hi]
      by_cases h1 : r + 1 < n ^ N
      · rw [allS, Nat.add_assoc, block_at n N n b (r + 1) hb h1]
        have : (allS n N)[r + 1]? = some ((allS n N)[r + 1]'(by rw [allS_len]; exact h1)) := List.getElem?_eq_getElem _
        rw [this]; rfl
      · have e : (allS n N)[r + 1]? = none := List.getElem?_eq_none (by rw [allS_len]; omega)
        rw [e]
        simp only
        have e2 : b * n ^ N + r + 1 = (b + 1) * n ^ N + 0 := by rw [Nat.add_mul]; omega
        rw [e2]
        by_cases h2 : b + 1 < n
        · rw [if_pos h2, allS, block_at n N n (b + 1) 0 h2 hpos, allS_head n hn N, hl1]; rfl
        · rw [if_neg h2]
          refine (List.getElem?_eq_none ?_).symm
          rw [allS_len, Nat.pow_succ, Nat.mul_comm (n ^ N) n]
          have := Nat.mul_le_mul_right (n ^ N) (show n ≤ b + 1 by omega)
          omega

/-! what 'next' does, from the last place on -/
theorem next_carry (n : Nat) : ∀ (A : List Nat) (d : Nat), (∀ c ∈ A, c = n - 1) → 0 < n → nextN n A = none
  | [], _, _, _ => rfl
  | b :: A, d, h, hn => by
    rw [nextN, next_carry n A d (fun c hc => h c (List.mem_cons_of_mem _ hc)) hn]
    have := h b (List.mem_cons_self ..)
    simp only
    rw [if_neg (by omega)]
theorem next_at (n : Nat) (hn : 0 < n) : ∀ (P : List Nat) (b : Nat) (R : List Nat), (∀ c ∈ R, c = n - 1) → b + 1 < n → nextN n (P ++ b :: R) = some (P ++ (b + 1) :: List.replicate R.length 0)
  | [], b, R, h, hb => by
    rw [List.nil_append, nextN, next_carry n R 0 h hn]
    simp only
    rw [if_pos hb]; rfl
  | p :: P, b, R, h, hb => by
    rw [List.cons_append, nextN, next_at n hn P b R h hb]
    rfl

/-! how many are the cheapest -/
def prodTo (f : Nat → Nat) : Nat → Nat
  | 0 => 1
  | k + 1 => prodTo f k * f k
theorem prodTo_congr {f g : Nat → Nat} : ∀ {n : Nat}, (∀ i, i < n → f i = g i) → prodTo f n = prodTo g n
  | 0, _ => rfl
  | n + 1, h => by rw [prodTo, prodTo, prodTo_congr fun i hi => h i (by omega), h n (by omega)]
theorem prodTo_upd {f : Nat → Nat} {i x : Nat} : ∀ {n : Nat}, i < n → prodTo (fun j => if j = i then f j * x else f j) n = prodTo f n * x
  | 0, h => by omega
  | n + 1, h => by
    rw [prodTo, prodTo]
    by_cases e : n = i
    · subst e
      rw [if_pos rfl, prodTo_congr (g := f) fun j hj => if_neg (by omega), Nat.mul_assoc]
    · rw [if_neg e, prodTo_upd (n := n) (by omega), Nat.mul_assoc, Nat.mul_assoc, Nat.mul_comm x]
theorem prodTo_one : ∀ n, prodTo (fun _ => 1) n = 1
  | 0 => rfl
  | n + 1 => by rw [prodTo, prodTo_one n]
def sumN (f : Nat → Nat) : Nat → Nat
  | 0 => 0
  | k + 1 => sumN f k + f k
theorem sumN_congr {f g : Nat → Nat} : ∀ {n : Nat}, (∀ i, i < n → f i = g i) → sumN f n = sumN g n
  | 0, _ => rfl
  | n + 1, h => by rw [sumN, sumN, sumN_congr fun i hi => h i (by omega), h n (by omega)]
theorem countP_flat {α : Type} (p : α → Bool) (g : Nat → List α) : ∀ k, ((List.range k).flatMap g).countP p = sumN (fun b => (g b).countP p) k
  | 0 => rfl
  | k + 1 => by rw [List.range_succ, List.flatMap_append, List.countP_append, countP_flat p g k]; simp [sumN]
theorem sumN_sw (m : List (List Int)) (F : Fn2) (v s P : Nat) (w : Nat → Nat) : ∀ k, sumN (fun b => if isBest m F v s b then P * w b else 0) k = P * swTo m F v s w k
  | 0 => by simp [sumN, swTo]
  | k + 1 => by
    rw [sumN, swTo_succ, sumN_sw m F v s P w k, Nat.mul_add]
    by_cases h : isBest m F v s k
    · rw [if_pos h, if_pos h]
    · rw [if_neg h, if_neg h, Nat.mul_zero]
theorem sumN_cnt (c : Nat → Int) (x : Int) (w : Nat → Nat) : ∀ k, sumN (fun s => if c s = x then w s else 0) k = cntTo c x w k
  | 0 => rfl
  | k + 1 => by rw [sumN, cntTo_succ, sumN_cnt c x w k]
theorem countP_and {α : Type} (p : α → Bool) (c : Bool) (l : List α) : l.countP (fun a => p a && c) = if c then l.countP p else 0 := by
  cases c with
  | true => simp
  | false => simp
/-- the nodes from t.length - k on have a cheapest state -/
def goodB (t : List Node) (m : List (List Int)) (F : Fn2) (A : List Nat) : Nat → Bool
  | 0 => true
  | k + 1 => goodB t m F A k && decide (isBest m F (t.length - 1 - k) (A.getD (parN t (t.length - 1 - k)) 0) (A.getD (t.length - 1 - k) 0))
theorem goodB_iff {t : List Node} {m : List (List Int)} {F : Fn2} {A : List Nat} : ∀ {k : Nat}, k ≤ t.length - 1 → (goodB t m F A k = true ↔ ∀ v, t.length - k ≤ v → v < t.length → isBest m F v (A.getD (parN t v) 0) (A.getD v 0))
  | 0, _ => by
    constructor
    · intro _ v h1 h2; omega
    · intro _; rfl
  | k + 1, hk => by
    rw [goodB, Bool.and_eq_true, decide_eq_true_eq, goodB_iff (by omega)]
    constructor
    · rintro ⟨h1, h2⟩ v hv1 hv2
      by_cases e : v = t.length - 1 - k
      · rw [e]; exact h2
      · exact h1 v (by omega) hv2
    · intro h
      exact ⟨fun v h1 h2 => h v (by omega) h2, h _ (by omega) (by omega)⟩
theorem getD_pre {P R : List Nat} {u : Nat} (h : u < P.length) : (P ++ R).getD u 0 = P.getD u 0 := by simp [List.getD, List.getElem?_append_left h]
theorem good_count {t : List Node} {m : List (List Int)} {st : List Int} (g : Good t m st) (F : Fn2) : ∀ (k : Nat), k ≤ t.length - 1 → ∀ (P : List Nat), P.length = t.length - k → (∀ b ∈ P, b < m.length) →
    (allS m.length k).countP (fun A => goodB t m F (P ++ A) k) = prodTo (fun u => wayF t m F k u (P.getD u 0)) (t.length - k)
  | 0, _, P, hP, hb => by
    have e : prodTo (fun u => wayF t m F 0 u (P.getD u 0)) (t.length - 0) = 1 := by
      rw [← prodTo_one (t.length - 0)]
      refine prodTo_congr fun u hu => ?_
      have : P.getD u 0 < m.length := hb _ (by rw [getD_of 0 P u (by omega)]; exact List.getElem_mem _)
      rw [wayF, way0, if_pos this]
    rw [e]
    simp [allS, goodB]
  | k + 1, hk, P, hP, hb => by
    obtain ⟨v, hv⟩ : ∃ v, v = t.length - 1 - k := ⟨_, rfl⟩
    have hv0 : 0 < v := by omega
    have hvn : v < t.length := by omega
    have hp := (g.par v hv0 hvn).1
    have hPl : P.length = v := by omega
    have hs : P.getD (parN t v) 0 < m.length := hb _ (by rw [getD_of 0 P _ (by omega)]; exact List.getElem_mem _)
    rw [allS, countP_flat]
    have e1 : ∀ b, b < m.length → ((allS m.length k).map (b :: ·)).countP (fun A => goodB t m F (P ++ A) (k + 1)) = if isBest m F v (P.getD (parN t v) 0) b then prodTo (fun u => wayF t m F k u (P.getD u 0)) v * wayF t m F k v b else 0 := fun b hbm => by
      rw [List.countP_map]
      have e2 : (fun A => goodB t m F (P ++ A) (k + 1)) ∘ (b :: ·) = fun A => goodB t m F ((P ++ [b]) ++ A) k && decide (isBest m F v (P.getD (parN t v) 0) b) := by
        funext A
        show goodB t m F (P ++ b :: A) (k + 1) = _
        rw [goodB, ← hv]
        have e3 : P ++ b :: A = (P ++ [b]) ++ A := by simp
        rw [e3, getD_pre (P := P ++ [b]) (by rw [List.length_append]; simp; omega), getD_pre (P := P) (by omega), getD_pre (P := P ++ [b]) (u := v) (by rw [List.length_append]; simp; omega)]
        have e4 : (P ++ [b]).getD v 0 = b := by rw [← hPl]; simp [List.getD]
        rw [e4]
      rw [e2, countP_and]
      by_cases hi : isBest m F v (P.getD (parN t v) 0) b
      · rw [decide_eq_true hi, if_pos rfl, if_pos hi, good_count g F k (by omega) (P ++ [b]) (by rw [List.length_append]; simp; omega) (fun c hc => by
          rcases List.mem_append.1 hc with h | h
          · exact hb c h
          · rw [List.mem_singleton.1 h]; exact hbm)]
        rw [show t.length - k = v + 1 by omega, prodTo]
        have e4 : (P ++ [b]).getD v 0 = b := by rw [← hPl]; simp [List.getD]
        rw [e4, prodTo_congr fun u hu => by rw [getD_pre (P := P) (by omega)]]
      · rw [decide_eq_false hi, if_neg (by simp), if_neg hi]
    rw [sumN_congr e1, sumN_sw, show t.length - (k + 1) = v by omega]
    have e5 : ∀ u, u < v → wayF t m F (k + 1) u (P.getD u 0) = if u = parN t v then wayF t m F k u (P.getD u 0) * swTo m F v (P.getD (parN t v) 0) (wayF t m F k v) m.length else wayF t m F k u (P.getD u 0) := fun u hu => by
      rw [wayF, ← hv, wayR]
      by_cases e : u = parN t v
      · rw [if_pos ⟨e, by rw [e]; exact hs⟩, if_pos e, e]
      · rw [if_neg (fun h => e h.1), if_neg e]
    rw [prodTo_congr e5, prodTo_upd hp]
/-- one for each way -/
theorem count_root {t : List Node} {m : List (List Int)} {st : List Int} (g : Good t m st) (F : Fn2) {s : Nat} (hs : s < m.length) : (allS m.length (t.length - 1)).countP (fun A => goodB t m F (s :: A) (t.length - 1)) = finW t m F 0 s := by
  have h := good_count g F (t.length - 1) (Nat.le_refl _) [s] (by have := g.n0; simp; omega) (fun b hb => by rw [List.mem_singleton.1 hb]; exact hs)
  have e : t.length - (t.length - 1) = 0 + 1 := by have := g.n0; omega
  rw [e, prodTo, prodTo, Nat.one_mul] at h
  exact h
theorem count_all {t : List Node} {m : List (List Int)} {st : List Int} (g : Good t m st) (F : Fn2) (x : Int) : (allS m.length t.length).countP (fun A => goodB t m F A (t.length - 1) && decide (F 0 (A.getD 0 0) = x)) = cntTo (F 0) x (finW t m F 0) m.length := by
  have e : t.length = (t.length - 1) + 1 := by have := g.n0; omega
  have h : ∀ b, b < m.length → ((allS m.length (t.length - 1)).map (b :: ·)).countP (fun A => goodB t m F A (t.length - 1) && decide (F 0 (A.getD 0 0) = x)) = if F 0 b = x then finW t m F 0 b else 0 := fun b hb => by
    rw [List.countP_map]
    have e2 : (fun A => goodB t m F A (t.length - 1) && decide (F 0 (A.getD 0 0) = x)) ∘ (b :: ·) = fun A => goodB t m F (b :: A) (t.length - 1) && decide (F 0 b = x) := rfl
    rw [e2, countP_and, count_root g F hb]
    by_cases hx : F 0 b = x
    · rw [decide_eq_true hx, if_pos rfl, if_pos hx]
    · rw [decide_eq_false hx, if_neg (by simp), if_neg hx]
  rw [← sumN_cnt, ← sumN_congr h]
  have := countP_flat (fun A => goodB t m F A (t.length - 1) && decide (F 0 (A.getD 0 0) = x)) (fun b => (allS m.length (t.length - 1)).map (b :: ·)) m.length
  rw [← this]
  conv => lhs; rw [e]
  rfl

end Go.Cp
end

section
set_option linter.unusedVariables false
set_option linter.unusedSimpArgs false
set_option maxHeartbeats 4000000
set_option maxRecDepth 10000
namespace Go.Cp
open Go Go.Proofs Go.Vx

def castL (A : List Nat) : List Int := A.map fun (n : Nat) => (n : Int)
theorem castL_at (A : List Nat) (v : Nat) : (castL A).getD v 0 = (A.getD v 0 : Nat) := by
  simp only [castL, List.getD, List.getElem?_map]
  cases A[v]? <;> rfl
theorem castL_len (A : List Nat) : (castL A).length = A.length := by simp [castL]
theorem castL_a (A : List Nat) (v : Nat) : aOf (castL A) v = A.getD v 0 := by rw [aOf, castL_at]; rfl
theorem castL_inj {A B : List Nat} (h : castL A = castL B) : A = B := by
  have := congrArg (List.map Int.toNat) h
  simpa [castL, Function.comp_def] using this
theorem more_eq {t : List Node} {m : List (List Int)} {F : Fn2} {all : List Int} (h : ∀ v, 0 < v → v < t.length → 0 ≤ moreF t m F all v) : ∀ k, k ≤ t.length - 1 → moreTo t m F all k = 0 → ∀ v, t.length - k ≤ v → v < t.length → moreF t m F all v = 0
  | 0, _, _, v, h1, h2 => by omega
  | k + 1, hk, h0, v, h1, h2 => by
    have ha := more_nonneg h k (by omega)
    have hb := h (t.length - 1 - k) (by omega) (by omega)
    rw [moreTo] at h0
    by_cases e : v = t.length - 1 - k
    · rw [e]; omega
    · exact more_eq h k (by omega) (by omega) v (by omega) h2

section
variable {t : List Node} {m : List (List Int)} {st : List Int}
theorem dig {A : List Nat} (hA : A ∈ allS m.length t.length) {v : Nat} (hv : v < t.length) : A.getD v 0 < m.length := by
  obtain ⟨h1, h2⟩ := mem_allS.1 hA
  rw [getD_of 0 A v (by omega)]
  exact h2 _ (List.getElem_mem _)
theorem good_asg (g : Good t m st) {A : List Nat} (hA : A ∈ allS m.length t.length) (h0 : solF t m st 0 (A.getD 0 0) ≠ -1) (hg : goodB t m (solF t m st) A (t.length - 1) = true) : Asg t m st (castL A) ∧ costTo t m (castL A) (t.length - 1) = solF t m st 0 (A.getD 0 0) := by
  have hn0 := g.n0
  have hb := (goodB_iff (Nat.le_refl _)).1 hg
  have hst : ∀ v, 0 < v → v < t.length → stepF m (solF t m st) v (A.getD (parN t v) 0) (A.getD v 0) ≠ -1 ∧ stepF m (solF t m st) v (A.getD (parN t v) 0) (A.getD v 0) = underF m (solF t m st) v (A.getD (parN t v) 0) := fun v h0 hv => by
    have h := hb v (by omega) hv
    exact ⟨by rw [h.2]; exact h.1, h.2⟩
  have hF : ∀ v, v < t.length → solF t m st v (A.getD v 0) ≠ -1 := fun v hv => by
    by_cases e : v = 0
    · rw [e]; exact h0
    · intro e2
      exact (hst v (by omega) hv).1 (by rw [stepF, if_pos (.inr e2)])
  have ha : Asg t m st (castL A) := by
    refine ⟨by rw [castL_len]; exact (mem_allS.1 hA).1, fun v hv => ?_, fun v hv => ?_, fun v h0 hv => ?_⟩
    · have := dig hA hv
      rw [castL_at]; omega
    · rw [castL_a]; exact ini_of_sol g (dig hA hv) (hF v hv)
    · intro e
      have e2 : cellAt m (A.getD (parN t v) 0) (A.getD v 0) = -1 := by
        rw [xAt, castL_at, castL_at] at e
        exact e
      exact (hst v h0 hv).1 (by rw [stepF, if_pos (.inl e2)])
  refine ⟨ha, ?_⟩
  obtain ⟨h1, h2, h3⟩ := asg_root g ha
  rw [more_zero (fun v h0 hv => by rw [moreF, castL_a, castL_a, (hst v h0 hv).2]; omega) _ (Nat.le_refl _), castL_a] at h3
  omega
theorem asg_good (g : Good t m st) {A : List Nat} (h : Asg t m st (castL A)) (hc : costTo t m (castL A) (t.length - 1) = solF t m st 0 (A.getD 0 0)) : goodB t m (solF t m st) A (t.length - 1) = true ∧ solF t m st 0 (A.getD 0 0) ≠ -1 := by
  obtain ⟨h1, h2, h3⟩ := asg_root g h
  rw [castL_a] at h1 h3
  have hz := more_eq (fun v h0 hv => (h2 v h0 hv).2) (t.length - 1) (Nat.le_refl _) (by omega)
  refine ⟨(goodB_iff (Nat.le_refl _)).2 fun v hv1 hv2 => ?_, by omega⟩
  have hz := hz v hv1 hv2
  have hv0 : 0 < v := by have := g.n0; omega
  have hx := h.can v hv0 hv2
  have hf := (h2 v hv0 hv2).1
  have hst : stepF m (solF t m st) v (A.getD (parN t v) 0) (A.getD v 0) ≠ -1 := by
    rw [castL_a] at hf
    rw [xAt, castL_at, castL_at] at hx
    have hb := (g.mat.2.2.2 (A.getD (parN t v) 0) (A.getD v 0)).1
    have hx : cellAt m (A.getD (parN t v) 0) (A.getD v 0) ≠ -1 := hx
    rw [stepF, if_neg (by omega)]
    omega
  rw [moreF, castL_a, castL_a] at hz
  exact ⟨by omega, by omega⟩
end

/-! the order -/
def ltL (A B : List Nat) : Prop := ∃ v, (∀ u, u < v → A.getD u 0 = B.getD u 0) ∧ A.getD v 0 < B.getD v 0
theorem sorted_allS (n : Nat) : ∀ N, (allS n N).Pairwise ltL
  | 0 => List.pairwise_singleton _ _
  | N + 1 => by
    rw [allS, List.pairwise_flatMap]
    refine ⟨fun b _ => ?_, ?_⟩
    · rw [List.pairwise_map]
      refine (sorted_allS n N).imp fun h => ?_
      obtain ⟨v, h1, h2⟩ := h
      refine ⟨v + 1, fun u hu => ?_, by simpa using h2⟩
      match u with
      | 0 => rfl
      | u + 1 => simpa using h1 u (by omega)
    · refine List.pairwise_lt_range.imp fun h x hx y hy => ?_
      obtain ⟨x', _, rfl⟩ := List.mem_map.1 hx
      obtain ⟨y', _, rfl⟩ := List.mem_map.1 hy
      exact ⟨0, fun u hu => by omega, by simpa using h⟩
theorem ltL_irrefl {A B : List Nat} (h : ltL A B) (h' : ltL B A) : False := by
  obtain ⟨v, h1, h2⟩ := h
  obtain ⟨w, h3, h4⟩ := h'
  rcases Nat.lt_trichotomy v w with e | e | e
  · have := h3 v e; omega
  · subst e; omega
  · have := h1 w e; omega
theorem diff_first {A B : List Nat} (hl : A.length = B.length) (h : A ≠ B) : ∃ v, v < A.length ∧ (∀ u, u < v → A.getD u 0 = B.getD u 0) ∧ A.getD v 0 ≠ B.getD v 0 := by
  induction A generalizing B with
  | nil =>
    match B with
    | [] => exact absurd rfl h
    | _ :: _ => simp at hl
  | cons a A ih =>
    match B, hl with
    | b :: B, hl =>
      by_cases e : a = b
      · subst e
        obtain ⟨v, h1, h2, h3⟩ := ih (B := B) (by simpa using hl) (fun e => h (by rw [e]))
        refine ⟨v + 1, by simp; omega, fun u hu => ?_, by simpa using h3⟩
        match u with
        | 0 => rfl
        | u + 1 => simpa using h2 u (by omega)
      · exact ⟨0, by simp, fun u hu => by omega, by simpa using e⟩

/-- the first of the cheapest is before all others -/
theorem best_first {t : List Node} {m : List (List Int)} {st : List Int} (he : errP t m st = 0) : ∃ B, B ∈ allS m.length t.length ∧ castL B = bestV t m st ∧ Asg t m st (castL B) ∧ costTo t m (castL B) (t.length - 1) = minV t m st ∧
    ∀ A, A ∈ allS m.length t.length → Asg t m st (castL A) → costTo t m (castL A) (t.length - 1) = minV t m st → A = B ∨ ltL B A := by
  obtain ⟨hc, hr⟩ := errP_zero he
  have g := good_of hc
  obtain ⟨ha, hcost, hpick, hroot⟩ := opt_best he
  have hl := ha.len
  obtain ⟨B, hB⟩ : ∃ B : List Nat, castL B = bestV t m st := by
    refine ⟨(bestV t m st).map Int.toNat, ?_⟩
    rw [castL, List.map_map]
    refine List.ext_getElem (by simp) fun i h1 h2 => ?_
    have := ha.bd i (by rw [← hl]; exact h2)
    rw [getD_of 0 _ i h2] at this
    simp only [List.getElem_map, Function.comp_apply]
    omega
  rw [← hB] at ha hcost hpick hroot hl
  rw [castL_len] at hl
  have hBm : B ∈ allS m.length t.length := mem_allS.2 ⟨hl, fun b hb => by
    obtain ⟨i, hi, rfl⟩ := List.mem_iff_getElem.1 hb
    have := (ha.bd i (by omega)).2
    rw [castL_at, getD_of 0 B i hi] at this
    omega⟩
  refine ⟨B, hBm, hB, ha, hcost, fun A hA hAa hAc => ?_⟩
  by_cases hne : A = B
  · exact .inl hne
  right
  obtain ⟨v, hv, heq, hdiff⟩ := diff_first (by rw [(mem_allS.1 hA).1, hl]) hne
  have hAl := (mem_allS.1 hA).1
  have hv : v < t.length := by omega
  refine ⟨v, fun u hu => (heq u hu).symm, ?_⟩
  obtain ⟨b0, hb1, hb2, hb3, hb4, hb5, hb6⟩ := g.rootB hr
  have hmin : minV t m st = solF t m st 0 b0 := by rw [minV, if_pos he]; exact hb3.symm
  have hA0 : A.getD 0 0 < m.length := dig hA g.n0
  have hrA := asg_root g hAa
  have hrA2 := more_nonneg (fun v h0 hv => (hrA.2.1 v h0 hv).2) (t.length - 1) (Nat.le_refl _)
  rw [castL_a] at hrA
  have hA0e : solF t m st 0 (A.getD 0 0) = minV t m st := by
    rcases hb5 _ hA0 with e | e <;> omega
  by_cases h0 : v = 0
  · subst h0
    have hB0 : B.getD 0 0 = b0 := by
      have : (castL B).getD 0 0 = (b0 : Int) := by rw [hroot, hb2]
      rw [castL_at] at this; omega
    rw [hB0] at hdiff ⊢
    rcases Nat.lt_trichotomy b0 (A.getD 0 0) with e | e | e
    · exact e
    · exact absurd e.symm hdiff
    · exact absurd (by rw [hA0e, hmin]) (hb6 _ e)
  · have hgA := (asg_good g hAa (by rw [hAc, hA0e])).1
    have hbA := (goodB_iff (Nat.le_refl _)).1 hgA v (by omega) hv
    have hpar := (g.par v (by omega) hv).1
    rw [heq _ hpar] at hbA
    obtain ⟨b, h1, h2, h3, h4, h5, h6⟩ := g.underB hbA.1
    have hBv : B.getD v 0 = b := by
      have := hpick v (by omega) hv
      rw [castL_at, castL_a, h2] at this
      omega
    rw [hBv] at hdiff ⊢
    rcases Nat.lt_trichotomy b (A.getD v 0) with e | e | e
    · exact e
    · exact absurd e.symm hdiff
    · exact absurd (by rw [hbA.2, h3]) (h6 _ e)

/-! going over them -/
structure Acc where
  least : Int
  ways : Int
  first : List Int
  given : List Int
def givenS (gv : List Int) (s : Nat) (c : Int) : List Int := if gv.getD s 0 < 0 ∨ c < gv.getD s 0 then gv.set s c else gv
def stepAcc (ok : List Nat → Bool) (cost : List Nat → Int) (a : Acc) (A : List Nat) : Acc :=
  if ok A then
    if a.least < 0 ∨ cost A < a.least then ⟨cost A, 1, castL A, givenS a.given (A.getD 0 0) (cost A)⟩
    else if cost A = a.least then ⟨a.least, a.ways + 1, a.first, givenS a.given (A.getD 0 0) (cost A)⟩
    else ⟨a.least, a.ways, a.first, givenS a.given (A.getD 0 0) (cost A)⟩
  else a
def acc0 (n : Nat) : Acc := ⟨-1, 0, [], List.replicate n (-1)⟩
def accTo (ok : List Nat → Bool) (cost : List Nat → Int) (n : Nat) (p : List (List Nat)) : Acc := p.foldl (stepAcc ok cost) (acc0 n)
theorem accTo_app (ok : List Nat → Bool) (cost : List Nat → Int) (n : Nat) (p : List (List Nat)) (A : List Nat) : accTo ok cost n (p ++ [A]) = stepAcc ok cost (accTo ok cost n p) A := by
  rw [accTo, List.foldl_append]; rfl
structure AccOK (ok : List Nat → Bool) (cost : List Nat → Int) (n : Nat) (p : List (List Nat)) (a : Acc) : Prop where
  glen : a.given.length = n
  gv : ∀ s, s < n → (a.given.getD s 0 = -1 ∧ ∀ A ∈ p, ok A = true → A.getD 0 0 ≠ s) ∨ (0 ≤ a.given.getD s 0 ∧ (∃ A ∈ p, ok A = true ∧ A.getD 0 0 = s ∧ cost A = a.given.getD s 0) ∧ ∀ A ∈ p, ok A = true → A.getD 0 0 = s → a.given.getD s 0 ≤ cost A)
  lw : (a.least = -1 ∧ (∀ A ∈ p, ok A = false) ∧ a.ways = 0 ∧ a.first = []) ∨ (0 ≤ a.least ∧ (∀ A ∈ p, ok A = true → a.least ≤ cost A) ∧ a.ways = (p.countP fun A => ok A && decide (cost A = a.least) : Nat) ∧
    ∃ p1 B p2, p = p1 ++ B :: p2 ∧ ok B = true ∧ cost B = a.least ∧ a.first = castL B ∧ ∀ A ∈ p1, ok A = true → cost A ≠ a.least)
theorem countP_none {ok : List Nat → Bool} {cost : List Nat → Int} {p : List (List Nat)} {x : Int} (h : ∀ A ∈ p, ok A = true → cost A ≠ x) : (p.countP fun A => ok A && decide (cost A = x)) = 0 := by
  rw [List.countP_eq_zero]
  intro A hA
  simp only [Bool.and_eq_true, decide_eq_true_eq, not_and]
  exact h A hA
theorem rev_ind {α : Type} {P : List α → Prop} (h0 : P []) (h1 : ∀ p a, P p → P (p ++ [a])) (p : List α) : P p := by
  have h : ∀ l : List α, P l.reverse := fun l => by
    induction l with
    | nil => exact h0
    | cons a l ih => rw [List.reverse_cons]; exact h1 _ _ ih
  have := h p.reverse
  rwa [List.reverse_reverse] at this
theorem accOK {ok : List Nat → Bool} {cost : List Nat → Int} {n : Nat} : ∀ p, (∀ A ∈ p, A.getD 0 0 < n ∧ (ok A = true → 0 ≤ cost A)) → AccOK ok cost n p (accTo ok cost n p) := by
  refine rev_ind ?_ fun p A ih => ?_
  · intro _; exact ⟨by simp [accTo, acc0], fun s hs => .inl ⟨by simp [accTo, acc0, List.getD, hs], by simp⟩, .inl ⟨rfl, by simp, rfl, rfl⟩⟩
  · intro hp
    obtain ⟨h1, h2, h3⟩ := ih fun A hA => hp A (List.mem_append_left _ hA)
    have hA0 := (hp A (by simp)).1
    rw [accTo_app]
    obtain ⟨a, ha⟩ : ∃ a, accTo ok cost n p = a := ⟨_, rfl⟩
    rw [ha] at h1 h2 h3 ⊢
    cases hok : ok A with
    | false =>
      have e : stepAcc ok cost a A = a := by rw [stepAcc, hok]; rfl
      rw [e]
      refine ⟨h1, fun s hs => ?_, ?_⟩
      · rcases h2 s hs with ⟨e1, e2⟩ | ⟨e1, ⟨B, hB, e2⟩, e3⟩
        · refine .inl ⟨e1, fun B hB hokB => ?_⟩
          rcases List.mem_append.1 hB with hB | hB
          · exact e2 B hB hokB
          · rw [List.mem_singleton.1 hB, hok] at hokB; cases hokB
        · refine .inr ⟨e1, ⟨B, List.mem_append_left _ hB, e2⟩, fun C hC hokC => ?_⟩
          rcases List.mem_append.1 hC with hC | hC
          · exact e3 C hC hokC
          · rw [List.mem_singleton.1 hC, hok] at hokC; cases hokC
      · rcases h3 with ⟨e1, e2, e3, e4⟩ | ⟨e1, e2, e3, p1, B, p2, e4, e5, e6, e7, e8⟩
        · refine .inl ⟨e1, fun B hB => ?_, e3, e4⟩
          rcases List.mem_append.1 hB with hB | hB
          · exact e2 B hB
          · rw [List.mem_singleton.1 hB, hok]
        · refine .inr ⟨e1, fun B hB hokB => ?_, ?_, p1, B, p2 ++ [A], by rw [e4]; simp, e5, e6, e7, e8⟩
          · rcases List.mem_append.1 hB with hB | hB
            · exact e2 B hB hokB
            · rw [List.mem_singleton.1 hB, hok] at hokB; cases hokB
          · rw [List.countP_append, e3]; simp [hok]
    | true =>
      have hcA := (hp A (by simp)).2 hok
      have hgs : ∀ x y z, AccOK ok cost n (p ++ [A]) ⟨x, y, z, givenS a.given (A.getD 0 0) (cost A)⟩ ↔ ((x = -1 ∧ (∀ A' ∈ p ++ [A], ok A' = false) ∧ y = 0 ∧ z = []) ∨ (0 ≤ x ∧ (∀ A' ∈ p ++ [A], ok A' = true → x ≤ cost A') ∧ y = ((p ++ [A]).countP fun A => ok A && decide (cost A = x) : Nat) ∧
          ∃ p1 B p2, p ++ [A] = p1 ++ B :: p2 ∧ ok B = true ∧ cost B = x ∧ z = castL B ∧ ∀ A ∈ p1, ok A = true → cost A ≠ x)) := fun x y z => by
        refine ⟨fun h => h.lw, fun h => ⟨?_, fun s hs => ?_, h⟩⟩
        · show (givenS a.given (A.getD 0 0) (cost A)).length = n
          rw [givenS]; split
          · rw [List.length_set]; exact h1
          · exact h1
        · show ((givenS a.given (A.getD 0 0) (cost A)).getD s 0 = -1 ∧ _) ∨ _
          obtain ⟨s0, hs0⟩ : ∃ s0, A.getD 0 0 = s0 := ⟨_, rfl⟩
          have hmem : A ∈ p ++ [A] := by simp
          have hgs : (givenS a.given s0 (cost A)).getD s 0 = if s0 = s ∧ (a.given.getD s 0 < 0 ∨ cost A < a.given.getD s 0) then cost A else a.given.getD s 0 := by
            rw [givenS]
            by_cases e : s0 = s
            · subst e
              by_cases c : a.given.getD s0 0 < 0 ∨ cost A < a.given.getD s0 0
              · rw [if_pos c, if_pos ⟨rfl, c⟩, set_at2 (by omega), if_pos rfl]
              · rw [if_neg c, if_neg (fun h => c h.2)]
            · by_cases c : a.given.getD s0 0 < 0 ∨ cost A < a.given.getD s0 0
              · rw [if_pos c, if_neg (fun h => e h.1), set_at2 (by omega), if_neg e]
              · rw [if_neg c, if_neg (fun h => e h.1)]
          rw [hs0]
          simp only [hgs]
          rcases h2 s hs with ⟨e1, e2⟩ | ⟨e1, ⟨B, hB, e2⟩, e3⟩
          · by_cases e : s0 = s
            · rw [if_pos ⟨e, by omega⟩]
              refine .inr ⟨hcA, ⟨A, hmem, hok, by rw [hs0, e], rfl⟩, fun C hC hokC hCs => ?_⟩
              rcases List.mem_append.1 hC with hC | hC
              · exact absurd hCs (e2 C hC hokC)
              · rw [List.mem_singleton.1 hC]; exact Int.le_refl _
            · rw [if_neg (fun h => e h.1)]
              refine .inl ⟨e1, fun C hC hokC => ?_⟩
              rcases List.mem_append.1 hC with hC | hC
              · exact e2 C hC hokC
              · rw [List.mem_singleton.1 hC, hs0]; exact e
          · right
            by_cases e : s0 = s ∧ (a.given.getD s 0 < 0 ∨ cost A < a.given.getD s 0)
            · rw [if_pos e]
              refine ⟨hcA, ⟨A, hmem, hok, by rw [hs0, e.1], rfl⟩, fun C hC hokC hCs => ?_⟩
              rcases List.mem_append.1 hC with hC | hC
              · have := e3 C hC hokC hCs; omega
              · rw [List.mem_singleton.1 hC]; exact Int.le_refl _
            · rw [if_neg e]
              refine ⟨e1, ⟨B, List.mem_append_left _ hB, e2⟩, fun C hC hokC hCs => ?_⟩
              rcases List.mem_append.1 hC with hC | hC
              · exact e3 C hC hokC hCs
              · rw [List.mem_singleton.1 hC] at hCs ⊢
                rw [hs0] at hCs
                have : ¬ (a.given.getD s 0 < 0 ∨ cost A < a.given.getD s 0) := fun h => e ⟨hCs, h⟩
                omega
      have hsplit : p ++ [A] = p ++ A :: [] := rfl
      rw [stepAcc, if_pos hok]
      by_cases c1 : a.least < 0 ∨ cost A < a.least
      · rw [if_pos c1, hgs]
        right
        have hlt : ∀ B ∈ p, ok B = true → cost A < cost B := fun B hB hokB => by
          rcases h3 with ⟨e1, e2, _⟩ | ⟨e1, e2, _⟩
          · rw [e2 B hB] at hokB; cases hokB
          · have := e2 B hB hokB; omega
        refine ⟨hcA, fun B hB hokB => ?_, ?_, p, A, [], rfl, hok, rfl, rfl, fun B hB hokB => by have := hlt B hB hokB; omega⟩
        · rcases List.mem_append.1 hB with hB | hB
          · have := hlt B hB hokB; omega
          · rw [List.mem_singleton.1 hB]; exact Int.le_refl _
        · rw [List.countP_append, countP_none fun B hB hokB => by have := hlt B hB hokB; omega]
          simp [hok]
      · rw [if_neg c1]
        rcases h3 with ⟨e1, _⟩ | ⟨e1, e2, e3, p1, B, p2, e4, e5, e6, e7, e8⟩
        · omega
        by_cases c2 : cost A = a.least
        · rw [if_pos c2, hgs]
          refine .inr ⟨e1, fun C hC hokC => ?_, ?_, p1, B, p2 ++ [A], by rw [e4]; simp, e5, e6, e7, e8⟩
          · rcases List.mem_append.1 hC with hC | hC
            · exact e2 C hC hokC
            · rw [List.mem_singleton.1 hC]; omega
          · rw [List.countP_append, e3]; simp [hok, c2]
        · rw [if_neg c2, hgs]
          refine .inr ⟨e1, fun C hC hokC => ?_, ?_, p1, B, p2 ++ [A], by rw [e4]; simp, e5, e6, e7, e8⟩
          · rcases List.mem_append.1 hC with hC | hC
            · exact e2 C hC hokC
            · rw [List.mem_singleton.1 hC]; omega
          · rw [List.countP_append, e3]; simp [hok, c2]

end Go.Cp
end

section
set_option linter.unusedVariables false
set_option linter.unusedSimpArgs false
set_option maxHeartbeats 4000000
set_option maxRecDepth 10000
namespace Go.Cp
open Go Go.Proofs Go.Vx

theorem good_exists {t : List Node} {m : List (List Int)} {st : List Int} (g : Good t m st) {s : Nat} (hs : s < m.length) (h : solF t m st 0 s ≠ -1) : ∃ A, A ∈ allS m.length t.length ∧ A.getD 0 0 = s ∧ goodB t m (solF t m st) A (t.length - 1) = true := by
  have h1 := way_pos g _ 0 s rfl hs h
  rw [← count_root g (solF t m st) hs, List.countP_pos_iff] at h1
  obtain ⟨A, hA, hg⟩ := h1
  obtain ⟨h2, h3⟩ := mem_allS.1 hA
  have := g.n0
  exact ⟨s :: A, mem_allS.2 ⟨by rw [List.length_cons, h2]; omega, fun b hb => by
    rcases List.mem_cons.1 hb with rfl | hb
    · exact hs
    · exact h3 b hb⟩, rfl, hg⟩
theorem all_final {t : List Node} {m : List (List Int)} {st : List Int} (hc : checkE t m st = 0) {ok : List Nat → Bool} {cost : List Nat → Int} (hok : ∀ A, A ∈ allS m.length t.length → (ok A = true ↔ Asg t m st (castL A)))
    (hcost : ∀ A, A ∈ allS m.length t.length → ok A = true → cost A = costTo t m (castL A) (t.length - 1)) :
    (accTo ok cost m.length (allS m.length t.length)).given.length = m.length ∧ (∀ s, s < m.length → (accTo ok cost m.length (allS m.length t.length)).given.getD s 0 = solF t m st 0 s) ∧
    (((accTo ok cost m.length (allS m.length t.length)).least = -1 ∧ errP t m st = 5) ∨
     (0 ≤ (accTo ok cost m.length (allS m.length t.length)).least ∧ errP t m st = 0 ∧ (accTo ok cost m.length (allS m.length t.length)).least = minV t m st ∧ (accTo ok cost m.length (allS m.length t.length)).ways = (waysN t m st : Nat) ∧
      (accTo ok cost m.length (allS m.length t.length)).first = bestV t m st)) := by
  have g := good_of hc
  have hlow : ∀ A, A ∈ allS m.length t.length → ok A = true → 0 ≤ solF t m st 0 (A.getD 0 0) ∧ solF t m st 0 (A.getD 0 0) ≤ cost A ∧ errP t m st = 0 ∧ minV t m st ≤ solF t m st 0 (A.getD 0 0) := fun A hA ho => by
    have ha := (hok A hA).1 ho
    obtain ⟨h1, h2, h3⟩ := asg_root g ha
    obtain ⟨h4, h5, h6, h7⟩ := opt_lower hc ha
    rw [castL_a] at h1 h6 h7
    rw [hcost A hA ho]
    exact ⟨h1, h7, h4, h6⟩
  have hgood : ∀ A, A ∈ allS m.length t.length → solF t m st 0 (A.getD 0 0) ≠ -1 → goodB t m (solF t m st) A (t.length - 1) = true → ok A = true ∧ cost A = solF t m st 0 (A.getD 0 0) := fun A hA h0 hg => by
    obtain ⟨h1, h2⟩ := good_asg g hA h0 hg
    have ho := (hok A hA).2 h1
    exact ⟨ho, by rw [hcost A hA ho, h2]⟩
  obtain ⟨h1, h2, h3⟩ := accOK (ok := ok) (cost := cost) (n := m.length) (allS m.length t.length) (fun A hA => ⟨dig hA g.n0, fun ho => by have := hlow A hA ho; omega⟩)
  obtain ⟨a, ha⟩ : ∃ a, accTo ok cost m.length (allS m.length t.length) = a := ⟨_, rfl⟩
  rw [ha] at h1 h2 h3 ⊢
  refine ⟨h1, fun s hs => ?_, ?_⟩
  · rcases h2 s hs with ⟨e1, e2⟩ | ⟨e1, ⟨A, hA, ho, hAs, hAc⟩, e3⟩
    · rw [e1]
      refine Decidable.byContradiction fun hne => ?_
      obtain ⟨A, hA, hAs, hg⟩ := good_exists g hs (fun e => hne e.symm)
      exact e2 A hA (hgood A hA (by rw [hAs]; exact fun e => hne e.symm) hg).1 hAs
    · have hl := hlow A hA ho
      rw [hAs] at hl
      obtain ⟨B, hB, hBs, hg⟩ := good_exists g hs (by omega)
      obtain ⟨hB1, hB2⟩ := hgood B hB (by rw [hBs]; omega) hg
      have := e3 B hB hB1 hBs
      rw [hBs] at hB2
      omega
  · rcases h3 with ⟨e1, e2, e3, e4⟩ | ⟨e1, e2, e3, p1, B, p2, e4, e5, e6, e7, e8⟩
    · refine .inl ⟨e1, ?_⟩
      rcases err_cases hc with h | h
      · obtain ⟨B, hB, _, hBa, _⟩ := best_first h
        have := e2 B hB
        rw [(hok B hB).2 hBa] at this
        cases this
      · exact h
    · right
      have hBm : B ∈ allS m.length t.length := by rw [e4]; simp
      have hlB := hlow B hBm e5
      have he := hlB.2.2.1
      obtain ⟨C, hC, hCe, hCa, hCc, hCf⟩ := best_first he
      have hoC := (hok C hC).2 hCa
      have hcC : cost C = minV t m st := by rw [hcost C hC hoC, hCc]
      have hle := e2 C hC hoC
      have hmin : a.least = minV t m st := by omega
      refine ⟨e1, he, hmin, ?_, ?_⟩
      · rw [e3]
        congr 1
        have hmr : minV t m st = (rootP t m st).1 := by rw [minV, if_pos he]
        have hr := (errP_zero he).2
        rw [show waysN t m st = cntTo (solF t m st 0) (rootP t m st).1 (finW t m (solF t m st) 0) m.length from rfl, ← count_all g (solF t m st) (rootP t m st).1]
        refine List.countP_congr fun A hA => ?_
        simp only [Bool.and_eq_true, decide_eq_true_eq]
        constructor
        · rintro ⟨ho, hcA⟩
          have hl := hlow A hA ho
          have hAe : solF t m st 0 (A.getD 0 0) = minV t m st := by omega
          have := asg_good g ((hok A hA).1 ho) (by rw [← hcost A hA ho]; omega)
          exact ⟨this.1, by omega⟩
        · rintro ⟨hg, hAe⟩
          obtain ⟨ho, hcA⟩ := hgood A hA (by omega) hg
          exact ⟨ho, by omega⟩
      · rw [e7, ← hCe]
        congr 1
        have hs := sorted_allS m.length t.length
        rw [e4, List.pairwise_append] at hs
        have hCp : C ∈ p1 ++ B :: p2 := by rw [← e4]; exact hC
        rcases List.mem_append.1 hCp with h | h
        · exact absurd (by rw [hcC, hmin]) (e8 C h hoC)
        · rcases List.mem_cons.1 h with h | h
          · exact h.symm
          · have hlt := (List.pairwise_cons.1 hs.2.1).1 C h
            rcases hCf B hBm ((hok B hBm).1 e5) (by rw [← hcost B hBm e5]; omega) with h' | h'
            · exact h'
            · exact (ltL_irrefl hlt h').elim

end Go.Cp
end

section
set_option linter.unusedVariables false
set_option linter.unusedSimpArgs false
set_option maxHeartbeats 4000000
set_option maxRecDepth 10000
namespace Go.Cp
open Go Go.Proofs Go.Vx

theorem set_numS (w : List Int) (j : Nat) (x : Int) : (w.map num).set j [.sc (.int .i64 x)] = (w.set j x).map num := by rw [List.map_set]; rfl
theorem row_oneS (w : List Int) (k : Nat) (h : k < w.length) : ((w.map num).getD k []).length = 1 := by rw [getD_num w k h]; rfl
theorem cast_set (A : List Nat) (v x : Nat) : (castL A).set v (x : Int) = castL (A.set v x) := by rw [castL, castL, List.map_set]
def nextR (n : Nat) (A : List Nat) : List Nat := (nextN n A).getD (List.replicate A.length 0)
/-- the last k places are 0 -/
def cutZ (A : List Nat) (k : Nat) : List Nat := A.take (A.length - k) ++ List.replicate k 0
theorem cutZ_len {A : List Nat} {k : Nat} (h : k ≤ A.length) : (cutZ A k).length = A.length := by simp [cutZ]; omega
theorem cutZ_split {A : List Nat} {k v : Nat} (h : A.length = v + 1 + k) : cutZ A k = A.take v ++ A.getD v 0 :: List.replicate k 0 := by
  rw [cutZ, show A.length - k = v + 1 by omega, List.take_add_one, List.getElem?_eq_getElem (by omega), getD_of 0 A v (by omega), List.append_assoc]
  rfl
theorem cutZ_at {A : List Nat} {k v : Nat} (h : A.length = v + 1 + k) : (cutZ A k).getD v 0 = A.getD v 0 := by
  rw [cutZ_split h]
  have : (A.take v).length = v := by simp; omega
  simp [List.getD, this]
theorem cutZ_set {A : List Nat} {k v x : Nat} (h : A.length = v + 1 + k) : (cutZ A k).set v x = A.take v ++ x :: List.replicate k 0 := by
  rw [cutZ_split h, List.set_append, if_neg (by simp only [List.length_take]; omega)]
  have : (A.take v).length = v := by simp; omega
  rw [this, Nat.sub_self]; rfl
theorem cutZ_next {A : List Nat} {k v : Nat} (h : A.length = v + 1 + k) : A.take v ++ 0 :: List.replicate k 0 = cutZ A (k + 1) := by
  rw [cutZ, show A.length - (k + 1) = v by omega]; rfl
theorem next_split {A : List Nat} {k v : Nat} (h : A.length = v + 1 + k) : A = A.take v ++ A.getD v 0 :: A.drop (v + 1) := by
  rw [getD_of 0 A v (by omega), ← List.drop_eq_getElem_cons (by omega), List.take_append_drop]

theorem next_ok (A : List Nat) (n : Nat) (hn : 0 < n) (hn2 : n ≤ 12) (hl : A.length ≤ 63) (hd : ∀ b ∈ A, b < n) :
    OkM Try.prog E 40 [.osl 2001 0, nv n] [(2001, .arr 3 0 ((castL A).map num))] (bv (nextN n A).isSome) [(2001, .arr 3 0 ((castL (nextR n A)).map num))] := by
  refine okM_of_vc (L := []) (ts := [4]) envOK mixed Try.func40 rfl (by kernel_rfl) rfl (by decide) (by kernel_rfl) rfl fun hl' hlb => ?_
  have hcl := castL_len A
  have hw0 : IntKind.i64.wrap ((A.length : Int) - 1) = (A.length : Int) - 1 := wrap_in (by omega) (by omega)
  simp only [Try.f40, hcl, hw0, nums, rowsS, nodes, zv, bv, sv, nv, VL, VB, BEq.rfl, V1, V2, V3, V4, V5, V6, V7, V8, V9, V10, V11, V12, VE, Nat.reduceBEq, Nat.reduceAdd, Nat.reduceSub, Nat.reduceMul, Nat.reduceLeDiff, Nat.reduceLT, Nat.reduceEqDiff, Int.reduceBEq, Int.reduceBNe, Int.reduceLT, Int.reduceLE, Int.reduceAdd, Int.reduceSub, Int.reduceMul, kAgg, scD, List.all_cons, List.all_nil]
  refine LoopVC.mk (Y := Nat) (fun k => k ≤ A.length ∧ ∀ c ∈ A.drop (A.length - k), c = n - 1) (fun k => ⟨[(0, .osl 2001 0), (1, nv n), (5, zv ((A.length : Int) - 1 - (k : Int)))], [(2001, .arr 3 0 ((castL (cutZ A k)).map num))]⟩) (fun k => A.length - k) ⟨0, Enter.mk [] [] [] ?_, by omega, by simp⟩ ?_
  · have e0 : cutZ A 0 = A := by simp [cutZ]
    have e1 : (A.length : Int) - 1 - ((0 : Nat) : Int) = (A.length : Int) - 1 := by omega
    simp only [e0, e1, nums, rowsS, nodes, zv, bv, sv, nv, VL, VB, BEq.rfl, V1, V2, V3, V4, V5, V6, V7, V8, V9, V10, V11, V12, VE, Nat.reduceBEq, Nat.reduceAdd, Nat.reduceSub, Nat.reduceMul, Nat.reduceLeDiff, Nat.reduceLT, Nat.reduceEqDiff, Int.reduceBEq, Int.reduceBNe, Int.reduceLT, Int.reduceLE, Int.reduceAdd, Int.reduceSub, Int.reduceMul, kAgg, scD, List.all_cons, List.all_nil]
  rintro k ⟨hk, hpre⟩
  have e1 : decide ((0 : Int) ≤ (A.length : Int) - 1 - (k : Int)) = decide (k < A.length) := by congr 1; exact propext ⟨fun h => by omega, fun h => by omega⟩
  simp only [e1, nums, rowsS, nodes, zv, bv, sv, nv, VL, VB, BEq.rfl, V1, V2, V3, V4, V5, V6, V7, V8, V9, V10, V11, V12, VE, Nat.reduceBEq, Nat.reduceAdd, Nat.reduceSub, Nat.reduceMul, Nat.reduceLeDiff, Nat.reduceLT, Nat.reduceEqDiff, Int.reduceBEq, Int.reduceBNe, Int.reduceLT, Int.reduceLE, Int.reduceAdd, Int.reduceSub, Int.reduceMul, kAgg, scD, List.all_cons, List.all_nil]
  refine guardB.mk (fun h => ?_) (fun h => ?_)
  · have hk' : k < A.length := by simpa using h
    clear h
    obtain ⟨v, hv⟩ : ∃ v, A.length = v + 1 + k := ⟨A.length - 1 - k, by omega⟩
    have hvi : (A.length : Int) - 1 - (k : Int) = (v : Int) := by omega
    have hat := cutZ_at hv
    have hset := fun x => cutZ_set (x := x) hv
    have hnx := cutZ_next hv
    have hsp := next_split hv
    have hcz := cutZ_len hk
    have hbn : A.getD v 0 < n := hd _ (by rw [getD_of 0 A v (by omega)]; exact List.getElem_mem _)
    have hdr : A.drop (A.length - k) = A.drop (v + 1) := by rw [show A.length - k = v + 1 by omega]
    rw [hdr] at hpre
    obtain ⟨b, hb⟩ : ∃ b, A.getD v 0 = b := ⟨_, rfl⟩
    rw [hb] at hat hsp hbn
    obtain ⟨Z, hZ⟩ : ∃ Z, cutZ A k = Z := ⟨_, rfl⟩
    rw [hZ] at hat hcz
    simp only [hZ] at hset
    have hcat : (castL Z).getD v 0 = (b : Int) := by rw [castL_at, hat]
    have hcs : ∀ x : Nat, (castL Z).set v (x : Int) = castL (A.take v ++ x :: List.replicate k 0) := fun x => by rw [cast_set, hset]
    have hczl : (castL Z).length = A.length := by rw [castL_len, hcz]
    have h1 : (((castL Z).map num).getD v []).length = 1 := row_oneS _ v (by omega)
    have hw1 : IntKind.i64.wrap ((b : Int) + 1) = ((b + 1 : Nat) : Int) := wrap_nat (by omega)
    obtain ⟨Y1, hY1⟩ : ∃ Y1, A.take v ++ (b + 1) :: List.replicate k 0 = Y1 := ⟨_, rfl⟩
    have hY1l : (castL Y1).length = A.length := by rw [castL_len, ← hY1]; simp; omega
    have hY1a : (castL Y1).getD v 0 = ((b + 1 : Nat) : Int) := by
      rw [castL_at, ← hY1]
      have : (A.take v).length = v := by simp; omega
      simp [List.getD, this]
    have h2 : (((castL Y1).map num).getD v []).length = 1 := row_oneS _ v (by omega)
    have hY1s : (castL Y1).set v 0 = castL (cutZ A (k + 1)) := by
      have e : (0 : Int) = ((0 : Nat) : Int) := rfl
      rw [e, cast_set, ← hY1, ← hnx, List.set_append, if_neg (by simp only [List.length_take]; omega)]
      have : (A.take v).length = v := by simp; omega
      rw [this, Nat.sub_self]; rfl
    have hb1 : (castL Z).set v ((b + 1 : Nat) : Int) = castL Y1 := by rw [hcs, hY1]
    simp only [hZ, hvi, getD_num (castL Z) v (by omega), hcat, num_def, hw1, drop1_num, set_numS, hb1, h1, hczl, hY1l, getD_num (castL Y1) v (by omega), hY1a, lt_nat, nums, rowsS, nodes, zv, bv, sv, nv, VL, VB, BEq.rfl, V1, V2, V3, V4, V5, V6, V7, V8, V9, V10, V11, V12, VE, Nat.reduceBEq, Nat.reduceAdd, Nat.reduceSub, Nat.reduceMul, Nat.reduceLeDiff, Nat.reduceLT, Nat.reduceEqDiff, Int.reduceBEq, Int.reduceBNe, Int.reduceLT, Int.reduceLE, Int.reduceAdd, Int.reduceSub, Int.reduceMul, kAgg, scD, List.all_cons, List.all_nil]
    refine ⟨Int.natCast_nonneg v, by omega, by omega, Int.natCast_nonneg v, by omega, by omega, Int.natCast_nonneg v, by omega, by omega, ?_⟩
    refine guardB.mk (fun h => ?_) (fun h => ?_) <;> simp only [h, nums, rowsS, nodes, zv, bv, sv, nv, VL, VB, BEq.rfl, V1, V2, V3, V4, V5, V6, V7, V8, V9, V10, V11, V12, VE, Nat.reduceBEq, Nat.reduceAdd, Nat.reduceSub, Nat.reduceMul, Nat.reduceLeDiff, Nat.reduceLT, Nat.reduceEqDiff, Int.reduceBEq, Int.reduceBNe, Int.reduceLT, Int.reduceLE, Int.reduceAdd, Int.reduceSub, Int.reduceMul, kAgg, scD, List.all_cons, List.all_nil]
    · have h : b + 1 < n := by simpa using h
      have hnn : nextN n A = some Y1 := by
        rw [hsp, next_at n hn _ b _ hpre h, ← hY1]
        congr 3
        simp; omega
      refine Enter.mk [] [] [] ?_
      simp only [nextR, hnn, Option.isSome_some, nums, rowsS, nodes, zv, bv, sv, nv, VL, VB, BEq.rfl, V1, V2, V3, V4, V5, V6, V7, V8, V9, V10, V11, V12, VE, Nat.reduceBEq, Nat.reduceAdd, Nat.reduceSub, Nat.reduceMul, Nat.reduceLeDiff, Nat.reduceLT, Nat.reduceEqDiff, Int.reduceBEq, Int.reduceBNe, Int.reduceLT, Int.reduceLE, Int.reduceAdd, Int.reduceSub, Int.reduceMul, kAgg, scD, List.all_cons, List.all_nil]
    · have h : ¬ b + 1 < n := by simpa using h
      have hw2 : IntKind.i64.wrap ((v : Int) - 1) = (A.length : Int) - 1 - ((k + 1 : Nat) : Int) := by rw [wrap_in (by omega) (by omega)]; omega
      simp only [set_numS, hY1s, h2, drop1_num, hY1l, hw2, nums, rowsS, nodes, zv, bv, sv, nv, VL, VB, BEq.rfl, V1, V2, V3, V4, V5, V6, V7, V8, V9, V10, V11, V12, VE, Nat.reduceBEq, Nat.reduceAdd, Nat.reduceSub, Nat.reduceMul, Nat.reduceLeDiff, Nat.reduceLT, Nat.reduceEqDiff, Int.reduceBEq, Int.reduceBNe, Int.reduceLT, Int.reduceLE, Int.reduceAdd, Int.reduceSub, Int.reduceMul, kAgg, scD, List.all_cons, List.all_nil]
      refine ⟨Int.natCast_nonneg v, by omega, by omega, k + 1, Enter.mk [] [] [] ?_, ⟨by omega, fun c hc => ?_⟩, by show A.length - (k + 1) < A.length - k; omega⟩
      · simp only [nums, rowsS, nodes, zv, bv, sv, nv, VL, VB, BEq.rfl, V1, V2, V3, V4, V5, V6, V7, V8, V9, V10, V11, V12, VE, Nat.reduceBEq, Nat.reduceAdd, Nat.reduceSub, Nat.reduceMul, Nat.reduceLeDiff, Nat.reduceLT, Nat.reduceEqDiff, Int.reduceBEq, Int.reduceBNe, Int.reduceLT, Int.reduceLE, Int.reduceAdd, Int.reduceSub, Int.reduceMul, kAgg, scD, List.all_cons, List.all_nil]
      · rw [show A.length - (k + 1) = v by omega, List.drop_eq_getElem_cons (by omega)] at hc
        rcases List.mem_cons.1 hc with hc | hc
        · rw [hc, ← getD_of 0 A v (by omega), hb]; omega
        · exact hpre c hc
  · have hk' : k = A.length := by
      have : ¬ k < A.length := by simpa using h
      omega
    subst hk'
    have hnone : nextN n A = none := next_carry n A 0 (by simpa using hpre) hn
    have hz : cutZ A A.length = List.replicate A.length 0 := by simp [cutZ]
    simp only [nextR, hnone, hz, Option.isSome_none, Option.getD_none, nums, rowsS, nodes, zv, bv, sv, nv, VL, VB, BEq.rfl, V1, V2, V3, V4, V5, V6, V7, V8, V9, V10, V11, V12, VE, Nat.reduceBEq, Nat.reduceAdd, Nat.reduceSub, Nat.reduceMul, Nat.reduceLeDiff, Nat.reduceLT, Nat.reduceEqDiff, Int.reduceBEq, Int.reduceBNe, Int.reduceLT, Int.reduceLE, Int.reduceAdd, Int.reduceSub, Int.reduceMul, kAgg, scD, List.all_cons, List.all_nil]
    refine Enter.mk [] [] [] ?_
    simp only [nums, rowsS, nodes, zv, bv, sv, nv, VL, VB, BEq.rfl, V1, V2, V3, V4, V5, V6, V7, V8, V9, V10, V11, V12, VE, Nat.reduceBEq, Nat.reduceAdd, Nat.reduceSub, Nat.reduceMul, Nat.reduceLeDiff, Nat.reduceLT, Nat.reduceEqDiff, Int.reduceBEq, Int.reduceBNe, Int.reduceLT, Int.reduceLE, Int.reduceAdd, Int.reduceSub, Int.reduceMul, kAgg, scD, List.all_cons, List.all_nil]

end Go.Cp
end
