/-
  Tree: clades (plain). Conditions: none.
  Tree: all clades of a tree. Conditions: none.
  Tree: the number of bits, and the bits at given places. Conditions: none.
-/
import Derived.Test.YtiioldgdgfdjeaaMK

section
set_option linter.unusedVariables false
set_option linter.unusedSimpArgs false
set_option maxHeartbeats 4000000
set_option maxRecDepth 10000
namespace Go.Cp
open Go Go.Proofs Go.Vx

def leafN (t : List Node) (i : Nat) : Nat := ((leavesOf t).getD i 0).toNat
theorem cladeTo_bit (t : List Node) (v i : Nat) : ∀ n, (cladeTo t v n).testBit i = (decide (i < n) && decide (v ∈ ups t (leafN t i)))
  | 0 => by simp [cladeTo]
  | n + 1 => by
    have ih := cladeTo_bit t v i n
    have e : cladeTo t v (n + 1) = if v ∈ ups t (leafN t n) then cladeTo t v n ||| 2 ^ n else cladeTo t v n := rfl
    rw [e]
    by_cases h : v ∈ ups t (leafN t n)
    · rw [if_pos h, Nat.testBit_or, ih, Nat.testBit_two_pow]
      by_cases hi : n = i
      · subst hi; simp [h]
      · have e2 : decide (i < n + 1) = decide (i < n) := by congr 1; exact propext ⟨fun h => by omega, fun h => by omega⟩
        simp [hi, e2]
    · rw [if_neg h, ih]
      by_cases hi : n = i
      · subst hi; simp [h]
      · have e2 : decide (i < n + 1) = decide (i < n) := by congr 1; exact propext ⟨fun h => by omega, fun h => by omega⟩
        simp [e2]
theorem clade_bit (t : List Node) (v i : Nat) : (clade t v).testBit i = (decide (i < (leavesOf t).length) && decide (v ∈ ups t (leafN t i))) := cladeTo_bit t v i _
theorem clade_lt (t : List Node) (v : Nat) : clade t v < 2 ^ (leavesOf t).length := cladeTo_lt t v _
theorem leafN_at {t : List Node} {i : Nat} (h : i < (leavesOf t).length) : leafN t i < t.length ∧ kids t (leafN t i : Nat) = [] ∧ (leavesOf t).getD i 0 = (leafN t i : Int) := by
  have hm : (leavesOf t).getD i 0 ∈ leavesOf t := by rw [getD_of 0 _ i h]; exact List.getElem_mem h
  obtain ⟨u, hu, e⟩ := List.mem_map.1 hm
  obtain ⟨h1, h2⟩ := List.mem_filter.1 hu
  have e2 : leafN t i = u := by rw [leafN, ← e]; rfl
  rw [e2]
  exact ⟨by simpa using h1, by simpa using h2, e.symm⟩
theorem root_in {t : List Node} (ht : okTree t = true) : ∀ n v, v ≤ n → v < t.length → 0 ∈ ups t v
  | n, v, h1, h2 => by
    rw [ups_eq ht h2]
    by_cases h0 : v = 0
    · subst h0; exact List.mem_cons_self ..
    · have hp := (okTree_parN ht h2 (by omega)).1
      cases n with
      | zero => omega
      | succ n =>
        rw [if_neg h0]
        exact List.mem_cons_of_mem _ (root_in ht n (parN t v) (by omega) (by omega))
theorem clade_root {t : List Node} (ht : okTree t = true) : clade t 0 = 2 ^ (leavesOf t).length - 1 := by
  apply Nat.eq_of_testBit_eq
  intro i
  rw [clade_bit, Nat.testBit_two_pow_sub_one]
  by_cases h : i < (leavesOf t).length
  · have h1 := (leafN_at h).1
    simp [h, root_in ht _ _ (Nat.le_refl _) h1]
  · simp [h]
/-- a leaf is above nothing else -/
theorem leaf_above {t : List Node} (ht : okTree t = true) {v a : Nat} (ha : a < t.length) (hk : kids t v = []) (h : v ∈ ups t a) : v = a := by
  by_cases e : v = a
  · exact e
  · obtain ⟨c, g1, g2, _⟩ := child_on ht _ _ (Nat.le_refl _) ha h e
    have := mem_kids g1 g2
    rw [hk] at this; cases this
theorem leaves_nodup (t : List Node) : (leavesOf t).Nodup := List.Pairwise.map _ (fun a b h e => h (Int.natCast_inj.mp e)) (List.Pairwise.filter _ (List.nodup_range (n := t.length)))
theorem leafN_inj {t : List Node} {i j : Nat} (hi : i < (leavesOf t).length) (hj : j < (leavesOf t).length) (h : leafN t i = leafN t j) : i = j := by
  have h1 := (leafN_at hi).2.2
  have h2 := (leafN_at hj).2.2
  rw [getD_of 0 _ i hi] at h1
  rw [getD_of 0 _ j hj] at h2
  have e : (leavesOf t)[i] = (leavesOf t)[j] := by rw [h1, h2, h]
  rcases Nat.lt_trichotomy i j with hlt | he | hlt
  · exact (List.pairwise_iff_getElem.1 (leaves_nodup t) i j hi hj hlt e).elim
  · exact he
  · exact (List.pairwise_iff_getElem.1 (leaves_nodup t) j i hj hi hlt e.symm).elim
theorem clade_leaf {t : List Node} (ht : okTree t = true) {k : Nat} (hk : k < (leavesOf t).length) : clade t (leafN t k) = 2 ^ k := by
  apply Nat.eq_of_testBit_eq
  intro i
  rw [clade_bit, Nat.testBit_two_pow]
  obtain ⟨h1, h2, _⟩ := leafN_at hk
  by_cases hi : i < (leavesOf t).length
  · obtain ⟨g1, g2, _⟩ := leafN_at hi
    by_cases e : k = i
    · subst e; simp [hk, ups_self ht h1]
    · have hn : leafN t k ∉ ups t (leafN t i) := fun hm => e (leafN_inj hk hi (leaf_above ht g1 h2 hm))
      simp [hn, e]
  · have e : k ≠ i := by omega
    simp [hi, e]
/-- the clades of the children, put together -/
def sumTo (t : List Node) (v : Nat) : Nat → Nat
  | 0 => 0
  | j + 1 => sumTo t v j ||| clade t ((kids t v).getD j 0).toNat
theorem sumTo_bit (t : List Node) (v i : Nat) : ∀ j, (sumTo t v j).testBit i = (decide (i < (leavesOf t).length) && (List.range j).any fun k => decide (((kids t v).getD k 0).toNat ∈ ups t (leafN t i)))
  | 0 => by simp [sumTo]
  | j + 1 => by
    rw [sumTo, Nat.testBit_or, sumTo_bit t v i j, clade_bit, List.range_succ, List.any_append]
    simp only [List.any_cons, List.any_nil, Bool.or_false]
    cases decide (i < (leavesOf t).length) <;> simp
theorem sumTo_lt (t : List Node) (v : Nat) : ∀ j, sumTo t v j < 2 ^ (leavesOf t).length
  | 0 => Nat.two_pow_pos _
  | j + 1 => Nat.or_lt_two_pow (sumTo_lt t v j) (clade_lt t _)
theorem sumTo_apart {t : List Node} (ht : okTree t = true) {v j : Nat} (hj : j < (kids t v).length) : clade t ((kids t v).getD j 0).toNat &&& sumTo t v j = 0 := by
  apply Nat.eq_of_testBit_eq
  intro i
  rw [Nat.testBit_and, clade_bit, sumTo_bit, Nat.zero_testBit]
  by_cases hi : i < (leavesOf t).length
  · have h1 := (leafN_at hi).1
    obtain ⟨c, hc, hcl, hcp⟩ := kid_idx hj
    rw [hc, Int.toNat_natCast]
    by_cases hm : c ∈ ups t (leafN t i)
    · have : ((List.range j).any fun k => decide (((kids t v).getD k 0).toNat ∈ ups t (leafN t i))) = false := by
        rw [List.any_eq_false]
        intro k hk
        have hk : k < j := by simpa using hk
        obtain ⟨d, hd, hdl, hdp⟩ := kid_idx (show k < (kids t v).length by omega)
        rw [hd, Int.toNat_natCast, decide_eq_true_eq]
        intro hm2
        have e := kids_apart ht hcl hdl hcp hdp h1 hm hm2
        have e1 := getD_of 0 (kids t v) k (by omega)
        have e2 := getD_of 0 (kids t v) j hj
        exact List.pairwise_iff_getElem.1 (kids_nodup t v) k j (by omega) hj hk (by rw [← e1, ← e2, hc, hd, e])
      rw [this]; simp
    · simp [hm]
  · simp [hi]
theorem sumTo_all {t : List Node} (ht : okTree t = true) {v : Nat} (hv : v < t.length) (hne : kids t v ≠ []) : sumTo t v (kids t v).length = clade t v := by
  apply Nat.eq_of_testBit_eq
  intro i
  rw [sumTo_bit, clade_bit]
  by_cases hi : i < (leavesOf t).length
  · obtain ⟨h1, h2, _⟩ := leafN_at hi
    congr 1
    rw [Bool.eq_iff_iff, List.any_eq_true, decide_eq_true_eq]
    constructor
    · rintro ⟨k, hk, hm⟩
      have hk : k < (kids t v).length := by simpa using hk
      obtain ⟨c, hc, hcl, hcp⟩ := kid_idx hk
      rw [hc, Int.toNat_natCast, decide_eq_true_eq] at hm
      exact (kid_below ht hcl hcp h1 hm).2
    · intro hm
      have hne2 : v ≠ leafN t i := fun e => hne (by rw [e]; exact h2)
      obtain ⟨c, g1, g2, g3⟩ := child_on ht _ _ (Nat.le_refl _) h1 hm hne2
      obtain ⟨k, hk, he⟩ := kid_of g1 g2
      exact ⟨k, by simpa using hk, by rw [he, Int.toNat_natCast, decide_eq_true_eq]; exact g3⟩
  · simp [hi]

/-! the leaves one after the other -/
theorem leafCount {t : List Node} {v : Nat} (hv : v < t.length) (hk : kids t v = []) : (leavesTo t v).length < (leavesOf t).length ∧ leafN t (leavesTo t v).length = v := by
  have key : ∀ n, v < n → n ≤ t.length → ∃ r, leavesTo t n = leavesTo t v ++ (v : Int) :: r := by
    intro n
    induction n with
    | zero => intro h; omega
    | succ n ih =>
      intro h1 h2
      rw [leavesTo_succ]
      by_cases e : v = n
      · subst e
        rw [if_pos hk]
        exact ⟨[], rfl⟩
      · obtain ⟨r, hr⟩ := ih (by omega) (by omega)
        split
        · exact ⟨r ++ [(n : Int)], by rw [hr]; simp⟩
        · exact ⟨r, hr⟩
  obtain ⟨r, hr⟩ := key t.length hv (Nat.le_refl _)
  have hr : leavesOf t = leavesTo t v ++ (v : Int) :: r := hr
  refine ⟨by rw [hr]; simp, ?_⟩
  rw [leafN, hr]
  simp [List.getD]

end Go.Cp
end

section
set_option linter.unusedVariables false
set_option linter.unusedSimpArgs false
set_option maxHeartbeats 8000000
set_option maxRecDepth 10000
namespace Go.Cp
open Go Go.Proofs Go.Vx

def u64D (n : Nat) : List D := [.sc (.int .u64 n)]
def cladesTo (t : List Node) (k : Nat) : List Nat := (List.range k).map fun v => clade t v
abbrev bitsS (l : List Nat) : D := .sl (l.map u64D)
theorem cladesTo_len (t : List Node) (k : Nat) : (cladesTo t k).length = k := by simp [cladesTo]
theorem cladesTo_succ (t : List Node) (k : Nat) : cladesTo t (k + 1) = cladesTo t k ++ [clade t k] := by simp [cladesTo, List.range_succ]
theorem cladesTo_at {t : List Node} {k v : Nat} (h : v < k) : ((cladesTo t k).map u64D).getD v [] = u64D (clade t v) := by simp [cladesTo, List.getD, h]
theorem u64D_def (n : Nat) : u64D n = [.sc (.int .u64 n)] := rfl
theorem chkN {t : List Node} (h : okTree t = true) {a : Nat} (ha : a < t.length) : chkE t [(a : Int)] = 0 := by
  rw [chk_sing, if_pos h, inB, decide_eq_true (show (a : Int) < (t.length : Int) by omega), decide_eq_true (show (0 : Int) ≤ (a : Int) by omega)]; rfl
theorem chkN2 {t : List Node} (h : okTree t = true) {a b : Nat} (ha : a < t.length) (hb : b < t.length) : chkE t [(a : Int), (b : Int)] = 0 := by
  rw [chk_pair, chkN h ha, if_pos rfl, chkN h hb]
theorem clades_ok (t : List Node) (ht : okTree t = true) (hs : Small t) : Ok Try.prog E 32 [.c (nodes t)] (.tp [.c (bitsS (cladesTo t t.length)), bv true]) := by
  have h63 := (okTree_len ht).2
  refine ok_of_vc (L := []) (ts := [2, 3]) envOK mixed Try.func32 rfl (by kernel_rfl) rfl (by kernel_rfl) rfl fun hl => ?_
  simp only [Try.f32, nums, rowsS, nodes, zv, nv, bv, sv, Option.isSome_some, VZ, BEq.rfl, seval, -Int.reduceNatCast', kAgg, scD, List.all_cons, List.all_nil]
  refine LoopVC.mk (Y := Nat) (fun k => k ≤ t.length) (fun k => ⟨[(0, .c (nodes t)), (4, .osl 1000 0), (5, nv k)], [(1000, .arr 45 0 ((cladesTo t k).map u64D))]⟩) (fun k => t.length - k) ⟨0, Enter.mk [(4, (1000, 45))] [] [] ?_, by omega⟩ ?_
  · simp only [nums, rowsS, nodes, zv, nv, bv, sv, Option.isSome_some, VZ, BEq.rfl, seval, -Int.reduceNatCast', kAgg, scD, List.all_cons, List.all_nil]
    exact ⟨⟨rfl, rfl⟩, rfl⟩
  intro k hk
  simp only [lt_nat, nums, rowsS, nodes, zv, nv, bv, sv, Option.isSome_some, VZ, BEq.rfl, seval, -Int.reduceNatCast', kAgg, scD, List.all_cons, List.all_nil]
  refine guardB.mk (fun h => ?_) (fun h => ?_)
  · have hk' : k < t.length := by simpa using h
    clear h
    have hck := chkN ht hk'
    have hcv : cladeV t (k : Int) = clade t k := by rw [cladeV, if_pos hck]; rfl
    have hsu : (cladesTo t (k + 1)).map u64D = (cladesTo t k).map u64D ++ [[.sc (.int .u64 (clade t k))]] := by rw [cladesTo_succ, List.map_append]; rfl
    simp only [nums, rowsS, nodes, zv, nv, bv, sv, Option.isSome_some, VZ, BEq.rfl, seval, -Int.reduceNatCast', kAgg, scD, List.all_cons, List.all_nil]
    refine CallX.mk (Clade_ok t k hs) rfl ?_
    simp only [hck, hcv, bitsU, cladesTo_len, wrap_nat (k := k) (by omega), nums, rowsS, nodes, zv, nv, bv, sv, Option.isSome_some, VZ, BEq.rfl, seval, -Int.reduceNatCast', kAgg, scD, List.all_cons, List.all_nil]
    refine ⟨⟨by omega, fun y hy => by rw [List.mem_singleton.1 hy]; rfl⟩, k + 1, Enter.mk [] [] [] ?_, by omega, by show t.length - (k + 1) < t.length - k; omega⟩
    simp only [hsu, nums, rowsS, nodes, zv, nv, bv, sv, Option.isSome_some, VZ, BEq.rfl, seval, -Int.reduceNatCast', kAgg, scD, List.all_cons, List.all_nil]
  · have hk' : k = t.length := by
      have : ¬ k < t.length := by simpa using h
      omega
    subst hk'
    simp only [nums, rowsS, nodes, zv, nv, bv, sv, Option.isSome_some, VZ, BEq.rfl, seval, -Int.reduceNatCast', kAgg, scD, List.all_cons, List.all_nil]

end Go.Cp
end

section
set_option linter.unusedVariables false
set_option linter.unusedSimpArgs false
set_option maxHeartbeats 8000000
set_option maxRecDepth 10000
namespace Go.Cp
open Go Go.Proofs Go.Vx

theorem leaves_pos {t : List Node} (ht : okTree t = true) : 0 < (leavesOf t).length := by
  have hn := (okTree_len ht).1
  have h0 := clade_root ht
  by_cases hk : kids t ((t.length - 1 : Nat) : Int) = []
  · exact Nat.lt_of_le_of_lt (Nat.zero_le _) (leafCount (t := t) (v := t.length - 1) (by omega) hk).1
  · cases hl : kids t ((t.length - 1 : Nat) : Int) with
    | nil => exact (hk hl).elim
    | cons a r =>
      obtain ⟨c, _, hc, hp⟩ := kid_idx (t := t) (v := t.length - 1) (j := 0) (by rw [hl]; exact Nat.succ_pos _)
      by_cases e : c = 0
      · subst e; rw [okTree_root ht] at hp; omega
      · have := okTree_par ht hc (by omega)
        omega
def cntB (x : Nat) : Nat → Nat
  | 0 => 0
  | k + 1 => cntB x k + (x.testBit k).toNat
theorem cntB_le (x : Nat) : ∀ k, cntB x k ≤ k
  | 0 => Nat.le_refl _
  | k + 1 => by
    have := cntB_le x k
    have := Bool.toNat_le (x.testBit k)
    rw [cntB]; omega
theorem cntB_mono {x y : Nat} (h : ∀ i, x.testBit i = true → y.testBit i = true) : ∀ k, cntB x k ≤ cntB y k
  | 0 => Nat.le_refl _
  | k + 1 => by
    have h1 := cntB_mono h k
    have h2 := h k
    rw [cntB, cntB]
    cases hx : x.testBit k with
    | false => simp; omega
    | true => rw [h2 hx]; omega
theorem cntB_end {x k : Nat} (h : x < 2 ^ k) : ∀ n, cntB x (k + n) = cntB x k
  | 0 => rfl
  | n + 1 => by
    have h2 : x < 2 ^ (k + n) := Nat.lt_of_lt_of_le h (Nat.pow_le_pow_right (by decide) (by omega))
    rw [show k + (n + 1) = k + n + 1 by omega, cntB, cntB_end h n, Nat.testBit_lt_two_pow h2]
    try rfl
theorem bit_one (x k : Nat) : x / 2 ^ k &&& 1 = (x.testBit k).toNat := by
  rw [Nat.and_one_is_mod, Nat.toNat_testBit]
theorem shr_u64 {a k : Nat} (h : k < 64) : ((a : Nat) : Int).fdiv (2 ^ (min k IntKind.u64.bits)) = ((a / 2 ^ k : Nat) : Int) := by
  have hb : IntKind.u64.bits = 64 := rfl
  have e : ((2 : Int) ^ k) = ((2 ^ k : Nat) : Int) := by simp
  rw [hb, Nat.min_eq_left (by omega), e]
  rw [Int.fdiv_eq_ediv_of_nonneg _ (Int.natCast_nonneg _)]
  exact (Int.natCast_ediv ..).symm
theorem bit_int (b : Bool) : (((b.toNat : Nat) : Int) == 1) = b := by cases b <;> rfl
def onesN (x : Nat) : Nat := cntB x 64
theorem ones_ok (x : Nat) (hx : x < 2 ^ 64) : Ok Try.prog E 33 [bitsU x] (nv (onesN x)) := by
  refine ok_of_vc (L := []) (ts := [2]) envOK mixed Try.func33 rfl (by kernel_rfl) rfl (by kernel_rfl) rfl fun hl => ?_
  simp only [Try.f33, zv, nv, bv, bitsU, VZ, BEq.rfl, seval, -Int.reduceNatCast', kAgg, scD, List.all_cons, List.all_nil]
  refine LoopVC.mk (Y := Nat) (fun k => k ≤ 64) (fun k => ⟨[(0, bitsU (x / 2 ^ k)), (3, nv (cntB x k))], []⟩) (fun k => 64 - k) ⟨0, Enter.id ?_, by omega⟩ ?_
  · simp only [Nat.pow_zero, Nat.div_one, cntB, zv, nv, bv, bitsU, VZ, BEq.rfl, seval, -Int.reduceNatCast', kAgg, scD, List.all_cons, List.all_nil]
    try rfl
  intro k hk
  have hc := cntB_le x k
  simp only [zv, nv, bv, bitsU, VZ, BEq.rfl, seval, -Int.reduceNatCast', kAgg, scD, List.all_cons, List.all_nil]
  refine guardB.mk (fun h => ?_) (fun h => ?_)
  · have h0 : 0 < x / 2 ^ k := by
      exact Int.natCast_pos.1 (of_decide_eq_true h)
    clear h
    have hk' : k < 64 := by
      rcases Nat.lt_or_ge k 64 with h | h
      · exact h
      · have : x < 2 ^ k := Nat.lt_of_lt_of_le hx (Nat.pow_le_pow_right (by decide) h)
        rw [Nat.div_eq_of_lt this] at h0; omega
    have hlt : x / 2 ^ k < 2 ^ 64 := Nat.lt_of_le_of_lt (Nat.div_le_self ..) hx
    have hand := and_u64 (b := 1) hlt (by decide)
    rw [bit_one] at hand
    have hand : bits .and .u64 ((x / 2 ^ k : Nat) : Int) 1 = (((x.testBit k).toNat : Nat) : Int) := hand
    have hb := Bool.toNat_le (x.testBit k)
    have hw : IntKind.i64.wrap (((x.testBit k).toNat : Nat) : Int) = (((x.testBit k).toNat : Nat) : Int) := wrap_in (by omega) (by omega)
    have hw2 : IntKind.i64.wrap ((cntB x k : Int) + (((x.testBit k).toNat : Nat) : Int)) = ((cntB x (k + 1) : Nat) : Int) := by
      rw [wrap_in (by omega) (by omega), cntB]; omega
    have hs : (((x / 2 ^ k : Nat)) : Int).fdiv (2 ^ min (Int.toNat 1) IntKind.u64.bits) = ((x / 2 ^ k / 2 ^ 1 : Nat) : Int) := shr_u64 (a := x / 2 ^ k) (k := 1) (by decide)
    have hs2 : x / 2 ^ k / 2 ^ 1 = x / 2 ^ (k + 1) := by rw [Nat.div_div_eq_div_mul, ← Nat.pow_add]
    rw [hs2] at hs
    have hs1 : (((x / 2 ^ k : Nat)) : Int).fdiv (2 ^ min 1 IntKind.u64.bits) = ((x / 2 ^ (k + 1) : Nat) : Int) := hs
    simp only [hand, hw, hw2, hs, hs1, zv, nv, bv, bitsU, VZ, BEq.rfl, seval, -Int.reduceNatCast', kAgg, scD, List.all_cons, List.all_nil]
    refine ⟨k + 1, Enter.id ?_, by omega, by show 64 - (k + 1) < 64 - k; omega⟩
    simp only [zv, nv, bv, bitsU, VZ, BEq.rfl, seval, -Int.reduceNatCast', kAgg, scD, List.all_cons, List.all_nil]
  · have h0 : x / 2 ^ k = 0 := by
      exact Nat.eq_zero_of_not_pos fun hp => of_decide_eq_false (by simpa using h) (Int.natCast_pos.2 hp)
    clear h
    have hlt : x < 2 ^ k := by
      rcases Nat.lt_or_ge x (2 ^ k) with h | h
      · exact h
      · have := Nat.div_pos h (Nat.two_pow_pos k); omega
    have he : onesN x = cntB x k := by
      have := cntB_end hlt (64 - k)
      rw [show k + (64 - k) = 64 by omega] at this
      exact this
    simp only [he, zv, nv, bv, bitsU, VZ, BEq.rfl, seval, -Int.reduceNatCast', kAgg, scD, List.all_cons, List.all_nil]
/-- the bits of x at the places of a -/
def sqz (x a : Nat) : Nat → Nat
  | 0 => 0
  | i + 1 => if a.testBit i = true then sqz x a i ||| (x.testBit i).toNat * 2 ^ cntB a i else sqz x a i
def sqzN (x a : Nat) : Nat := sqz x a 64
theorem bit_pow_lt (b : Bool) {k : Nat} : b.toNat * 2 ^ k < 2 ^ (k + 1) := by
  have h1 := Bool.toNat_le b
  have h2 := Nat.two_pow_pos k
  rw [Nat.pow_succ]
  have : b.toNat * 2 ^ k ≤ 1 * 2 ^ k := Nat.mul_le_mul_right _ h1
  omega
theorem sqz_lt (x a : Nat) : ∀ i, sqz x a i < 2 ^ cntB a i
  | 0 => Nat.one_pos
  | i + 1 => by
    have ih := sqz_lt x a i
    rw [sqz, cntB]
    cases hb : a.testBit i with
    | false => simpa using ih
    | true =>
      rw [if_pos rfl]
      exact Nat.or_lt_two_pow (Nat.lt_of_lt_of_le ih (Nat.pow_le_pow_right (by decide) (by omega))) (bit_pow_lt _)
theorem squeeze_ok (x a : Nat) (hx : x < 2 ^ 64) (ha : a < 2 ^ 64) : Ok Try.prog E 43 [bitsU x, bitsU a] (bitsU (sqzN x a)) := by
  refine ok_of_vc (L := []) (ts := [4]) envOK mixed Try.func43 rfl (by kernel_rfl) rfl (by kernel_rfl) rfl fun hl => ?_
  simp only [Try.f43, zv, nv, bv, bitsU, VZ, BEq.rfl, seval, -Int.reduceNatCast', kAgg, scD, List.all_cons, List.all_nil]
  refine LoopVC.mk (Y := Nat) (fun i => i ≤ 64) (fun i => ⟨[(0, bitsU x), (1, bitsU a), (5, bitsU (sqz x a i)), (6, nv (cntB a i)), (7, nv i)], []⟩) (fun i => 64 - i) ⟨0, Enter.id ?_, by omega⟩ ?_
  · simp only [sqz, cntB, zv, nv, bv, bitsU, VZ, BEq.rfl, seval, -Int.reduceNatCast', kAgg, scD, List.all_cons, List.all_nil]
    try exact ⟨rfl, rfl, rfl⟩
  intro i hi
  have hc := cntB_le a i
  have e64 : decide ((i : Int) < 64) = decide (i < 64) := by congr 1; exact propext ⟨fun h => by omega, fun h => by omega⟩
  simp only [e64, zv, nv, bv, bitsU, VZ, BEq.rfl, seval, -Int.reduceNatCast', kAgg, scD, List.all_cons, List.all_nil]
  refine guardB.mk (fun h => ?_) (fun h => ?_)
  · have hi' : i < 64 := by simpa using h
    clear h
    have hand : bits .and .u64 ((a / 2 ^ i : Nat) : Int) 1 = (((a.testBit i).toNat : Nat) : Int) := by
      have := and_u64 (a := a / 2 ^ i) (b := 1) (Nat.lt_of_le_of_lt (Nat.div_le_self ..) ha) (by decide)
      rw [bit_one] at this; exact this
    have hand2 : bits .and .u64 ((x / 2 ^ i : Nat) : Int) 1 = (((x.testBit i).toNat : Nat) : Int) := by
      have := and_u64 (a := x / 2 ^ i) (b := 1) (Nat.lt_of_le_of_lt (Nat.div_le_self ..) hx) (by decide)
      rw [bit_one] at this; exact this
    have hcs : cntB a (i + 1) = cntB a i + (a.testBit i).toNat := rfl
    have hqs : sqz x a (i + 1) = if a.testBit i = true then sqz x a i ||| (x.testBit i).toNat * 2 ^ cntB a i else sqz x a i := rfl
    simp only [shr_u64 hi', hand, bit_int, wrap_nat (k := i) (by omega), zv, nv, bv, bitsU, VZ, BEq.rfl, seval, -Int.reduceNatCast', kAgg, scD, List.all_cons, List.all_nil]
    refine ⟨Int.natCast_nonneg i, guardB.mk (fun h => ?_) (fun h => ?_)⟩
    · rw [if_pos h] at hqs
      rw [h] at hcs
      have hb2 := bit_pow_lt (x.testBit i) (k := cntB a i)
      have hb3 : (x.testBit i).toNat * 2 ^ cntB a i < 2 ^ 64 := Nat.lt_of_lt_of_le hb2 (Nat.pow_le_pow_right (by decide) (by omega))
      have hsl : IntKind.u64.wrap ((((x.testBit i).toNat : Nat) : Int) * 2 ^ (min (cntB a i) IntKind.u64.bits)) = (((x.testBit i).toNat * 2 ^ cntB a i : Nat) : Int) := by
        have hb : IntKind.u64.bits = 64 := rfl
        have e : ((2 : Int) ^ cntB a i) = ((2 ^ cntB a i : Nat) : Int) := by simp
        rw [hb, Nat.min_eq_left (by omega), e, ← Int.natCast_mul, wraps_u64 _ (Int.natCast_nonneg _) (by omega)]
      have hlt : sqz x a i < 2 ^ 64 := Nat.lt_of_lt_of_le (sqz_lt x a i) (Nat.pow_le_pow_right (by decide) (by omega))
      have hor := or_u64 hlt hb3
      rw [← hqs] at hor
      have hcs : cntB a (i + 1) = cntB a i + 1 := hcs
      simp only [shr_u64 hi', hand2, hsl, hor, wrap_nat (k := cntB a i) (by omega), wrap_nat (k := i) (by omega), zv, nv, bv, bitsU, VZ, BEq.rfl, seval, -Int.reduceNatCast', kAgg, scD, List.all_cons, List.all_nil]
      refine ⟨Int.natCast_nonneg i, Int.natCast_nonneg _, i + 1, Enter.id ?_, by omega, by show 64 - (i + 1) < 64 - i; omega⟩
      simp only [hcs, zv, nv, bv, bitsU, VZ, BEq.rfl, seval, -Int.reduceNatCast', kAgg, scD, List.all_cons, List.all_nil]
    · have h : a.testBit i = false := by simpa using h
      rw [h, if_neg (by simp)] at hqs
      rw [h] at hcs
      have hcs : cntB a (i + 1) = cntB a i := hcs
      simp only [wrap_nat (k := i) (by omega), zv, nv, bv, bitsU, VZ, BEq.rfl, seval, -Int.reduceNatCast', kAgg, scD, List.all_cons, List.all_nil]
      refine ⟨i + 1, Enter.id ?_, by omega, by show 64 - (i + 1) < 64 - i; omega⟩
      simp only [hcs, hqs, zv, nv, bv, bitsU, VZ, BEq.rfl, seval, -Int.reduceNatCast', kAgg, scD, List.all_cons, List.all_nil]
  · have hi' : i = 64 := by
      have : ¬ i < 64 := by simpa using h
      omega
    subst hi'
    clear h
    simp only [sqzN, zv, nv, bv, bitsU, VZ, BEq.rfl, seval, -Int.reduceNatCast', kAgg, scD, List.all_cons, List.all_nil]

end Go.Cp
end
