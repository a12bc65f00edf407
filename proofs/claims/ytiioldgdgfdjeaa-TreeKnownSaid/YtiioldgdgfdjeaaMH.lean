/-
  Tree: Text, and the reference's. Conditions: none.
  Tree: what stays of a tree (plain). Conditions: none.
  Tree: slices.Contains; the way up from nowhere; Prune. Conditions: none.
  Tree: Prune. Conditions: none.
-/
import Derived.Test.YtiioldgdgfdjeaaMG

section
set_option linter.unusedVariables false
set_option linter.unusedSimpArgs false
set_option maxHeartbeats 4000000
set_option maxRecDepth 10000
namespace Go.Cp
open Go Go.Proofs Go.Vx

def textV (t : List Node) : ByteArray := if okTree t = true then textOf t 0 else ⟨#[]⟩
theorem Text_ok (t : List Node) (hs : Small t) : Ok Try.prog E 15 [.c (nodes t)] (.tp [sv (textV t), zv (errOf (okTree t))]) := by
  refine ok_of_vc (L := []) (ts := [2, 3]) envOK mixed Try.func15 rfl (by kernel_rfl) rfl (by kernel_rfl) rfl fun hl => ?_
  simp only [Try.f15, nums, rowsS, nodes, zv, nv, bv, sv, VZ, BEq.rfl, seval, -Int.reduceNatCast', kAgg, scD, List.all_cons, List.all_nil]
  refine CallX.mk (check_ok t hs) rfl ?_
  cases ht : okTree t with
  | false => simp only [errOf_false, textV, ht, if_neg (show ¬ false = true by decide), nums, rowsS, nodes, zv, nv, bv, sv, VZ, BEq.rfl, seval, -Int.reduceNatCast', kAgg, scD, List.all_cons, List.all_nil]
  | true =>
    have hts := text_small ht (okTree_len ht).1
    have hz : (⟨#[]⟩ : ByteArray).size = 0 := rfl
    simp only [errOf_true, textV, ht, if_pos, nums, rowsS, nodes, zv, nv, bv, sv, VZ, BEq.rfl, seval, -Int.reduceNatCast', kAgg, scD, List.all_cons, List.all_nil]
    refine CallX.mk (families_ok t ht) rfl ?_
    simp only [nums, rowsS, nodes, zv, nv, bv, sv, VZ, BEq.rfl, seval, -Int.reduceNatCast', kAgg, scD, List.all_cons, List.all_nil]
    refine CallMVC.mk [] [(2001, 5), (2002, 6), (2003, 7), (2004, 1)] (write_fresh t ht 0 (okTree_len ht).1 ⟨#[]⟩ rfl (by rw [hz]; omega)) ?_ ?_
    · simp only [wBx0, wBx, nums, rowsS, nodes, zv, nv, bv, sv, VZ, BEq.rfl, seval, -Int.reduceNatCast', kAgg, scD, List.all_cons, List.all_nil]
      try rfl
    simp only [wBx0, wBx, ba_nil, nums, rowsS, nodes, zv, nv, bv, sv, VZ, BEq.rfl, seval, -Int.reduceNatCast', kAgg, scD, List.all_cons, List.all_nil]
    refine CallMVC.hand [] [(2001, 6), (2002, 2005)] (bstring_ok (textOf t 0) hts.1) ?_ ?_
    · simp only [nums, rowsS, nodes, zv, nv, bv, sv, VZ, BEq.rfl, seval, -Int.reduceNatCast', kAgg, scD, List.all_cons, List.all_nil]
    simp only [nums, rowsS, nodes, zv, nv, bv, sv, VZ, BEq.rfl, seval, -Int.reduceNatCast', kAgg, scD, List.all_cons, List.all_nil]

def refS (t : List Node) (v : Nat) : Nat → ByteArray
  | 0 => ⟨#[40]⟩
  | k + 1 => joinTo (textOf t) (kids t v) (k + 1)
theorem sz40 : (ByteArray.mk #[40]).size = 1 := rfl
theorem sz41 : (ByteArray.mk #[41]).size = 1 := rfl
theorem sz44 : (ByteArray.mk #[44]).size = 1 := rfl
theorem rtext_ok (t : List Node) (ht : okTree t = true) : ∀ m v, t.length - v ≤ m → v < t.length → Ok Try.prog E 63 [.c (nodes t), nv v] (sv (textOf t v))
  | 0, v, h1, hv => by omega
  | m + 1, v, h1, hv => by
    have hte := textOf_eq ht hv
    have hkl : (kids t v).length ≤ t.length := kidsTo_len t (v : Int) t.length
    have h63 := (okTree_len ht).2
    have hnd : (t.getD v Node.zero).name = nameOf t v := rfl
    have hjd : ∀ k, joinTo (textOf t) (kids t v) (k + 1) = joinTo (textOf t) (kids t v) k ++ ((if k = 0 then ⟨#[40]⟩ else ⟨#[44]⟩) ++ textOf t ((kids t v).getD k 0).toNat) := fun k => rfl
    have e2 : (((kids t v).length : Int) == 0) = decide (kids t v = []) := by rw [int_beq]; congr 1; exact propext ⟨fun h => List.length_eq_zero_iff.1 (by omega), fun h => by rw [h]; rfl⟩
    refine ok_of_vc (L := []) (ts := [4]) envOK mixed Try.func63 rfl (by kernel_rfl) rfl (by kernel_rfl) rfl fun hl => ?_
    simp only [Try.f63, nums, rowsS, nodes, zv, nv, bv, sv, VZ, BEq.rfl, seval, -Int.reduceNatCast', kAgg, scD, List.all_cons, List.all_nil]
    refine CallX.mk (Ok.val (children_ok t (v : Nat) h63)) rfl ?_
    simp only [e2, getD_node t v hv, node_def, hnd, nums, rowsS, nodes, zv, nv, bv, sv, VZ, BEq.rfl, seval, -Int.reduceNatCast', kAgg, scD, List.all_cons, List.all_nil]
    refine guardB.mk (fun h => ?_) (fun h => ?_) <;> simp only [h, nums, rowsS, nodes, zv, nv, bv, sv, VZ, BEq.rfl, seval, -Int.reduceNatCast', kAgg, scD, List.all_cons, List.all_nil]
    · have h : kids t v = [] := by simpa using h
      have e : textOf t v = nameOf t v := by rw [hte, h, if_pos rfl]; show (⟨#[]⟩ : ByteArray) ++ ((⟨#[]⟩ : ByteArray) ++ nameOf t v) = _; rw [ba_nil, ba_nil]
      simp only [e, getD_node t v hv, node_def, hnd, nums, rowsS, nodes, zv, nv, bv, sv, VZ, BEq.rfl, seval, -Int.reduceNatCast', kAgg, scD, List.all_cons, List.all_nil]
      exact ⟨Int.natCast_nonneg v, hv⟩
    · have hne : kids t v ≠ [] := by simpa using h
      have hpos : 0 < (kids t v).length := List.length_pos_iff.2 hne
      refine LoopVC.mk (Y := Nat) (fun k => k ≤ (kids t v).length) (fun k => ⟨[(0, .c (nodes t)), (1, nv v), (5, .c (nums (kids t v))), (6, sv (refS t v k)), (7, nv k)], []⟩) (fun k => (kids t v).length - k) ⟨0, Enter.id ?_, by omega⟩ ?_
      · simp only [refS, nums, rowsS, nodes, zv, nv, bv, sv, VZ, BEq.rfl, seval, -Int.reduceNatCast', kAgg, scD, List.all_cons, List.all_nil]
        try rfl
      have hj := joinTo_mono (textOf t) (kids t v) (kids t v).length
      have htsz : (textOf t v).size = (joinTo (textOf t) (kids t v) (kids t v).length).size + ((if kids t v = [] then (⟨#[]⟩ : ByteArray) else ⟨#[41]⟩).size + (nameOf t v).size) := by rw [hte, ba_size, ba_size]
      have hsm := (text_small ht hv).2
      intro k hk
      simp only [lt_nat, nums, rowsS, nodes, zv, nv, bv, sv, VZ, BEq.rfl, seval, -Int.reduceNatCast', kAgg, scD, List.all_cons, List.all_nil]
      refine guardB.mk (fun h => ?_) (fun h => ?_)
      · have hk' : k < (kids t v).length := by simpa using h
        clear h
        obtain ⟨u, hu, hul, hup⟩ := kid_at (show (kids t v).getD k 0 ∈ kids t v by rw [getD_of 0 _ k hk']; exact List.getElem_mem _)
        have hgt := kid_gt ht hul hup
        have hd := hjd k
        rw [hu, Int.toNat_natCast] at hd
        have ih := rtext_ok t ht m u (by omega) hul
        have hus := (text_small ht hul).2
        cases k with
        | zero =>
          have hj0 : joinTo (textOf t) (kids t v) 0 = ⟨#[]⟩ := rfl
          rw [if_pos rfl, hj0, ba_nil] at hd
          simp only [refS, pos_zero, getD_num (kids t v) 0 hk', hu, num_def, nums, rowsS, nodes, zv, nv, bv, sv, VZ, BEq.rfl, seval, -Int.reduceNatCast', kAgg, scD, List.all_cons, List.all_nil]
          refine ⟨⟨Int.natCast_nonneg _, hk'⟩, ?_⟩
          refine CallX.mk ih rfl ?_
          simp only [← hd, wrap_nat (k := 0) (by omega), nums, rowsS, nodes, zv, nv, bv, sv, VZ, BEq.rfl, seval, -Int.reduceNatCast', kAgg, scD, List.all_cons, List.all_nil]
          refine ⟨by rw [sz40]; omega, 1, Enter.id ?_, by omega, by show (kids t v).length - 1 < (kids t v).length - 0; omega⟩
          simp only [refS, nums, rowsS, nodes, zv, nv, bv, sv, VZ, BEq.rfl, seval, -Int.reduceNatCast', kAgg, scD, List.all_cons, List.all_nil]
        | succ k =>
          rw [if_neg (Nat.succ_ne_zero k), ← ba_assoc] at hd
          have hj1 := hj (k + 1) (by omega)
          have hj3 : (joinTo (textOf t) (kids t v) (k + 1) ++ (⟨#[44]⟩ : ByteArray)).size = (joinTo (textOf t) (kids t v) (k + 1)).size + 1 := ba_size _ _
          simp only [refS, pos_succ, getD_num (kids t v) (k + 1) hk', hu, num_def, nums, rowsS, nodes, zv, nv, bv, sv, VZ, BEq.rfl, seval, -Int.reduceNatCast', kAgg, scD, List.all_cons, List.all_nil]
          refine ⟨by rw [sz44]; omega, ⟨Int.natCast_nonneg _, hk'⟩, ?_⟩
          refine CallX.mk ih rfl ?_
          simp only [← hd, wrap_nat (k := k + 1) (by omega), nums, rowsS, nodes, zv, nv, bv, sv, VZ, BEq.rfl, seval, -Int.reduceNatCast', kAgg, scD, List.all_cons, List.all_nil]
          refine ⟨by omega, k + 2, Enter.id ?_, by omega, by show (kids t v).length - (k + 2) < (kids t v).length - (k + 1); omega⟩
          simp only [refS, nums, rowsS, nodes, zv, nv, bv, sv, VZ, BEq.rfl, seval, -Int.reduceNatCast', kAgg, scD, List.all_cons, List.all_nil]
      · have hk' : k = (kids t v).length := by
          have : ¬ k < (kids t v).length := by simpa using h
          omega
        clear h
        have e : textOf t v = joinTo (textOf t) (kids t v) (kids t v).length ++ ⟨#[41]⟩ ++ nameOf t v := by rw [hte, if_neg hne, ba_assoc]
        have er : refS t v (kids t v).length = joinTo (textOf t) (kids t v) (kids t v).length := by
          cases h : (kids t v).length with
          | zero => omega
          | succ k => rfl
        have hj3 : (joinTo (textOf t) (kids t v) (kids t v).length ++ (⟨#[41]⟩ : ByteArray)).size = (joinTo (textOf t) (kids t v) (kids t v).length).size + 1 := ba_size _ _
        have hnm := named_size ht hv
        simp only [hk', er, e, getD_node t v hv, node_def, hnd, nums, rowsS, nodes, zv, nv, bv, sv, VZ, BEq.rfl, seval, -Int.reduceNatCast', kAgg, scD, List.all_cons, List.all_nil]
        exact ⟨by rw [sz41]; omega, ⟨Int.natCast_nonneg v, hv⟩, by omega⟩

theorem rText_ok (t : List Node) (hs : Small t) : Ok Try.prog E 27 [.c (nodes t)] (.tp [sv (textV t), zv (errOf (okTree t))]) := by
  refine ok_of_vc (L := []) (ts := [2, 3]) envOK mixed Try.func27 rfl (by kernel_rfl) rfl (by kernel_rfl) rfl fun hl => ?_
  simp only [Try.f27, nums, rowsS, nodes, zv, nv, bv, sv, VZ, BEq.rfl, seval, -Int.reduceNatCast', kAgg, scD, List.all_cons, List.all_nil]
  refine CallX.mk (rcheck_ok t hs) rfl ?_
  cases ht : okTree t with
  | false => simp only [errOf_false, textV, ht, if_neg (show ¬ false = true by decide), nums, rowsS, nodes, zv, nv, bv, sv, VZ, BEq.rfl, seval, -Int.reduceNatCast', kAgg, scD, List.all_cons, List.all_nil]
  | true =>
    simp only [errOf_true, textV, ht, if_pos, nums, rowsS, nodes, zv, nv, bv, sv, VZ, BEq.rfl, seval, -Int.reduceNatCast', kAgg, scD, List.all_cons, List.all_nil]
    refine CallX.mk (rtext_ok t ht t.length 0 (by omega) (okTree_len ht).1) rfl ?_
    simp only [nums, rowsS, nodes, zv, nv, bv, sv, VZ, BEq.rfl, seval, -Int.reduceNatCast', kAgg, scD, List.all_cons, List.all_nil]

end Go.Cp
end

section
set_option linter.unusedVariables false
set_option linter.unusedSimpArgs false
set_option maxHeartbeats 4000000
set_option maxRecDepth 10000
namespace Go.Cp
open Go Go.Proofs Go.Vx

/-! the checks -/
def pchk (t : List Node) (keep : List Int) (k : Nat) : Int :=
  if inB t (keep.getD k 0) = true ∧ kids t (keep.getD k 0) = [] then (if keep.getD k 0 ∈ keep.take k then 6 else 0) else 3
def prE (t : List Node) (keep : List Int) : Int := (((List.range keep.length).map (pchk t keep)).find? fun e => decide (e ≠ 0)).getD 0
theorem prE_at {t : List Node} {keep : List Int} {k : Nat} (hk : k < keep.length) (hpre : ∀ j, j < k → pchk t keep j = 0) (h : pchk t keep k ≠ 0) : prE t keep = pchk t keep k := by
  have : ((List.range keep.length).map (pchk t keep)).find? (fun e => decide (e ≠ 0)) = some (pchk t keep k) := by
    rw [List.find?_eq_some_iff_getElem]
    refine ⟨by simpa using h, k, by simpa using hk, by simp, fun j hj => ?_⟩
    simp [hpre j hj]
  rw [prE, this]; rfl
theorem prE_all {t : List Node} {keep : List Int} (hpre : ∀ j, j < keep.length → pchk t keep j = 0) : prE t keep = 0 := by
  have : ((List.range keep.length).map (pchk t keep)).find? (fun e => decide (e ≠ 0)) = none := by
    rw [List.find?_eq_none]
    intro e he
    obtain ⟨j, hj, rfl⟩ := List.mem_map.1 he
    simp [hpre j (by simpa using hj)]
  rw [prE, this]; rfl
/-- each of the list is a leaf -/
def LeavesIn (t : List Node) (keep : List Int) : Prop := ∀ i, i < keep.length → ∃ a : Nat, keep.getD i 0 = (a : Int) ∧ a < t.length ∧ kids t a = []
theorem leavesIn_of {t : List Node} {keep : List Int} (h : ∀ j, j < keep.length → pchk t keep j = 0) : LeavesIn t keep := fun i hi => by
  have := h i hi
  unfold pchk at this
  split at this
  · rename_i hh
    obtain ⟨h1, h2⟩ := hh
    simp only [inB, Bool.and_eq_true, decide_eq_true_eq] at h1
    refine ⟨(keep.getD i 0).toNat, by omega, by omega, ?_⟩
    rw [show (((keep.getD i 0).toNat : Nat) : Int) = keep.getD i 0 by omega]
    exact h2
  · cases this

def leafAt (keep : List Int) (i : Nat) : Nat := (keep.getD i 0).toNat
def belowC (t : List Node) (keep : List Int) (k u : Nat) : Nat := (List.range k).countP fun i => under t u (leafAt keep i)
def bpos (t : List Node) (keep : List Int) (u : Nat) : Bool := decide (0 < belowC t keep keep.length u)
def brTo (t : List Node) (keep : List Int) (v j : Nat) : Nat := (List.range j).countP fun i => bpos t keep ((kids t v).getD i 0).toNat
def stays (t : List Node) (keep : List Int) (v : Nat) : Bool := bpos t keep v && decide (brTo t keep v (kids t v).length ≠ 1)
def staysR (t : List Node) (keep : List Int) (v : Nat) : Bool := (List.range keep.length).any fun i => (List.range (i + 1)).any fun k => decide (com t (leafAt keep i) (leafAt keep k) = v)

theorem bpos_iff {t : List Node} {keep : List Int} {u : Nat} : bpos t keep u = true ↔ ∃ i, i < keep.length ∧ u ∈ ups t (leafAt keep i) := by
  simp only [bpos, belowC, decide_eq_true_eq, List.countP_pos_iff, List.mem_range, under]
theorem child_on {t : List Node} (ht : okTree t = true) {v : Nat} : ∀ n a, a ≤ n → a < t.length → v ∈ ups t a → v ≠ a → ∃ c, c < t.length ∧ parOf t c = (v : Int) ∧ c ∈ ups t a
  | n, a, h1, h2, hv, hne => by
    have e := ups_eq ht h2
    rw [e] at hv
    rcases List.mem_cons.1 hv with h | h
    · exact (hne h).elim
    · split at h
      · cases h
      · rename_i h0
        obtain ⟨hp, hpe⟩ := okTree_parN ht h2 (by omega)
        by_cases hvp : v = parN t a
        · exact ⟨a, h2, by rw [hvp]; exact hpe, ups_self ht h2⟩
        · cases n with
          | zero => omega
          | succ n =>
            obtain ⟨c, g1, g2, g3⟩ := child_on ht n (parN t a) (by omega) (by omega) h hvp
            refine ⟨c, g1, g2, ?_⟩
            rw [e, if_neg h0]
            exact List.mem_cons_of_mem _ g3
theorem mem_kids {t : List Node} {v c : Nat} (hc : c < t.length) (hp : parOf t c = (v : Int)) : (c : Int) ∈ kids t v := by
  refine List.mem_map.2 ⟨c, List.mem_filter.2 ⟨by simpa using hc, by simpa using hp⟩, rfl⟩
theorem com_branch {t : List Node} (ht : okTree t = true) {v a b c d : Nat} (ha : a < t.length) (hb : b < t.length) (hc : c < t.length) (hd : d < t.length) (hpc : parOf t c = (v : Int)) (hpd : parOf t d = (v : Int)) (hne : c ≠ d)
    (hca : c ∈ ups t a) (hdb : d ∈ ups t b) : com t a b = v := by
  have hva := (kid_below ht hc hpc ha hca).2
  have hvb := (kid_below ht hd hpd hb hdb).2
  have hm := com_max ht ha hb hva hvb
  have hlt := com_lt ht ha hb
  by_cases h : v = com t a b
  · exact h.symm
  · obtain ⟨e, g1, g2, g3⟩ := child_on ht _ _ (Nat.le_refl _) hlt hm h
    have hea := ups_trans ht ha (com_mem ht ha hb).1 g3
    have heb := ups_trans ht hb (com_mem ht ha hb).2 g3
    exact (hne ((kids_apart ht hc g1 hpc g2 ha hca hea).trans (kids_apart ht g1 hd g2 hpd hb heb hdb))).elim
theorem count_one {n i : Nat} (h : i < n) : (List.range n).countP (fun x => decide (x = i)) = 1 := by
  have := List.Nodup.count (a := i) (List.nodup_range (n := n))
  rw [if_pos (by simpa using h)] at this
  rw [← this, List.count]
  rfl
theorem two_of_ne {n i j : Nat} {p : Nat → Bool} (hi : i < n) (hj : j < n) (hij : i ≠ j) (pi : p i = true) (pj : p j = true) : 2 ≤ (List.range n).countP p := by
  have h := countP_disj (l := List.range n) (p := fun x => decide (x = i)) (q := fun x => decide (x = j)) fun x _ hx => by
    have : x = i := by simpa using hx
    rw [this]; exact decide_eq_false hij
  rw [count_one hi, count_one hj] at h
  rw [show (2 : Nat) = 1 + 1 from rfl, h]
  refine List.countP_mono_left fun x _ hx => ?_
  simp only [Bool.or_eq_true, decide_eq_true_eq] at hx
  rcases hx with rfl | rfl
  · exact pi
  · exact pj
theorem ne_of_two {n : Nat} {p : Nat → Bool} (h : 2 ≤ (List.range n).countP p) : ∃ i j, i < n ∧ j < n ∧ i ≠ j ∧ p i = true ∧ p j = true := by
  rw [List.countP_eq_length_filter] at h
  have hnd : ((List.range n).filter p).Nodup := List.Pairwise.filter _ List.nodup_range
  have hm : ∀ x ∈ (List.range n).filter p, x < n ∧ p x = true := fun x hx => by simpa using List.mem_filter.1 hx
  cases hl : (List.range n).filter p with
  | nil => rw [hl] at h; simp at h
  | cons x r =>
    cases r with
    | nil => rw [hl] at h; simp at h
    | cons y r =>
      rw [hl] at hnd hm
      have hx := hm x (List.mem_cons_self ..)
      have hy := hm y (List.mem_cons_of_mem _ (List.mem_cons_self ..))
      refine ⟨x, y, hx.1, hy.1, fun e => ?_, hx.2, hy.2⟩
      have := List.rel_of_pairwise_cons hnd (List.mem_cons_self ..)
      exact this e
theorem kid_idx {t : List Node} {v j : Nat} (h : j < (kids t v).length) : ∃ c : Nat, (kids t v).getD j 0 = (c : Int) ∧ c < t.length ∧ parOf t c = (v : Int) := by
  obtain ⟨c, h1, h2, h3⟩ := kid_at (show (kids t v).getD j 0 ∈ kids t v by rw [getD_of 0 _ j h]; exact List.getElem_mem _)
  exact ⟨c, h1, h2, h3⟩
theorem kid_of {t : List Node} {v c : Nat} (hc : c < t.length) (hp : parOf t c = (v : Int)) : ∃ j, j < (kids t v).length ∧ (kids t v).getD j 0 = (c : Int) := by
  obtain ⟨j, hj, e⟩ := List.mem_iff_getElem.1 (mem_kids hc hp)
  exact ⟨j, hj, by rw [getD_of 0 _ j hj]; exact e⟩
theorem stays_eq {t : List Node} {keep : List Int} (ht : okTree t = true) (hk : LeavesIn t keep) {v : Nat} (hv : v < t.length) : stays t keep v = staysR t keep v := by
  have hleaf : ∀ i, i < keep.length → leafAt keep i < t.length ∧ kids t (leafAt keep i : Nat) = [] := fun i hi => by
    obtain ⟨a, h1, h2, h3⟩ := hk i hi
    rw [leafAt, h1]; exact ⟨h2, h3⟩
  rw [Bool.eq_iff_iff]
  constructor
  · intro h
    simp only [stays, Bool.and_eq_true, decide_eq_true_eq] at h
    obtain ⟨h1, h2⟩ := h
    obtain ⟨i, hi, hup⟩ := bpos_iff.1 h1
    obtain ⟨hal, hak⟩ := hleaf i hi
    have hput : ∀ i k, i < keep.length → k ≤ i → com t (leafAt keep i) (leafAt keep k) = v → staysR t keep v = true := fun i k hi hki e => by
      simp only [staysR, List.any_eq_true, decide_eq_true_eq]
      exact ⟨i, by simpa using hi, k, by simpa using (show k < i + 1 by omega), e⟩
    by_cases hb : brTo t keep v (kids t v).length = 0
    · have hva : v = leafAt keep i := by
        by_cases e : v = leafAt keep i
        · exact e
        · obtain ⟨c, g1, g2, g3⟩ := child_on ht _ _ (Nat.le_refl _) hal hup e
          obtain ⟨j, hj, hje⟩ := kid_of g1 g2
          have : 0 < brTo t keep v (kids t v).length := by
            rw [brTo, List.countP_pos_iff]
            refine ⟨j, by simpa using hj, ?_⟩
            rw [hje, Int.toNat_natCast]
            exact bpos_iff.2 ⟨i, hi, g3⟩
          omega
      exact hput i i hi (Nat.le_refl _) (by rw [com_same]; exact hva.symm)
    · obtain ⟨j1, j2, hj1, hj2, hne, p1, p2⟩ := ne_of_two (n := (kids t v).length) (p := fun i => bpos t keep ((kids t v).getD i 0).toNat) (by rw [brTo] at hb h2; omega)
      obtain ⟨c, e1, c1, c2⟩ := kid_idx hj1
      obtain ⟨d, e2, d1, d2⟩ := kid_idx hj2
      simp only [e1, e2, Int.toNat_natCast] at p1 p2
      obtain ⟨i1, hi1, hu1⟩ := bpos_iff.1 p1
      obtain ⟨i2, hi2, hu2⟩ := bpos_iff.1 p2
      have hcd : c ≠ d := fun e => by
        have h1 := getD_of 0 (kids t v) j1 hj1
        have h2 := getD_of 0 (kids t v) j2 hj2
        have hee : (kids t v)[j1] = (kids t v)[j2] := by rw [← h1, ← h2, e1, e2, e]
        rcases Nat.lt_or_gt_of_ne hne with hlt | hlt
        · exact List.pairwise_iff_getElem.1 (kids_nodup t v) j1 j2 hj1 hj2 hlt hee
        · exact List.pairwise_iff_getElem.1 (kids_nodup t v) j2 j1 hj2 hj1 hlt hee.symm
      rcases Nat.le_total i2 i1 with hle | hle
      · exact hput i1 i2 hi1 hle (com_branch ht (hleaf _ hi1).1 (hleaf _ hi2).1 c1 d1 c2 d2 hcd hu1 hu2)
      · exact hput i2 i1 hi2 hle (com_branch ht (hleaf _ hi2).1 (hleaf _ hi1).1 d1 c1 d2 c2 hcd.symm hu2 hu1)
  · intro h
    simp only [staysR, List.any_eq_true, decide_eq_true_eq] at h
    obtain ⟨i, hi, k, hki, e⟩ := h
    have hi : i < keep.length := by simpa using hi
    have hki : k < i + 1 := by simpa using hki
    obtain ⟨ha, hak⟩ := hleaf i hi
    obtain ⟨hb, hbk⟩ := hleaf k (by omega)
    obtain ⟨hma, hmb⟩ := com_mem ht ha hb
    have hmx := fun c h1 h2 => com_max ht ha hb (c := c) h1 h2
    rw [e] at hma hmb hmx
    simp only [stays, Bool.and_eq_true, decide_eq_true_eq]
    refine ⟨bpos_iff.2 ⟨i, hi, hma⟩, ?_⟩
    have hnk : ∀ {a c : Nat}, kids t a = [] → c < t.length → parOf t c = (a : Int) → False := fun hk hc hp => by
      have := mem_kids hc hp
      rw [hk] at this; cases this
    by_cases hva : v = leafAt keep i
    · have : kids t v = [] := by rw [hva]; exact hak
      rw [this]
      show ¬ brTo t keep v 0 = 1
      simp [brTo]
    · obtain ⟨c, c1, c2, c3⟩ := child_on ht _ _ (Nat.le_refl _) ha hma hva
      by_cases hvb : v = leafAt keep k
      · exact (hnk (by rw [hvb]; exact hbk) c1 c2).elim
      · obtain ⟨d, d1, d2, d3⟩ := child_on ht _ _ (Nat.le_refl _) hb hmb hvb
        have hcd : c ≠ d := fun e2 => by
          rw [← e2] at d3
          have := ups_le' ht hv (hmx c c3 d3)
          have := (kid_gt ht c1 c2).1
          omega
        obtain ⟨j1, hj1, e1⟩ := kid_of c1 c2
        obtain ⟨j2, hj2, e2⟩ := kid_of d1 d2
        have hj : j1 ≠ j2 := fun e3 => by
          rw [e3, e2] at e1
          exact hcd (by omega)
        have := two_of_ne (p := fun i => bpos t keep ((kids t v).getD i 0).toNat) hj1 hj2 hj (by simp only [e1, Int.toNat_natCast]; exact bpos_iff.2 ⟨i, hi, c3⟩) (by simp only [e2, Int.toNat_natCast]; exact bpos_iff.2 ⟨k, by omega, d3⟩)
        show ¬ brTo t keep v (kids t v).length = 1
        rw [brTo]
        omega

/-! what comes out -/
def rank (S : Nat → Bool) (u : Nat) : Nat := (List.range u).countP S
theorem rank_succ (S : Nat → Bool) (u : Nat) : rank S (u + 1) = rank S u + (if S u = true then 1 else 0) := by
  rw [rank, rank, List.range_succ, List.countP_append]
  simp
theorem rank_le (S : Nat → Bool) (u : Nat) : rank S u ≤ u := by
  have := List.countP_le_length (p := S) (l := List.range u)
  rwa [List.length_range] at this
def upL (t : List Node) (v : Nat) : List Nat := if v = 0 then [] else ups t (parN t v)
def parOut (t : List Node) (S : Nat → Bool) (v : Nat) : Int := match (upL t v).find? S with | some u => rank S u | none => -1
def prTo (t : List Node) (S : Nat → Bool) (k : Nat) : List Node := ((List.range k).filter S).map fun v => ⟨parOut t S v, nameOf t v⟩
theorem prTo_succ (t : List Node) (S : Nat → Bool) (k : Nat) : prTo t S (k + 1) = if S k = true then prTo t S k ++ [⟨parOut t S k, nameOf t k⟩] else prTo t S k := by
  rw [prTo, List.range_succ, List.filter_append, List.map_append]
  by_cases h : S k = true
  · rw [if_pos h]; simp [h, prTo]
  · rw [if_neg h]; simp [h, prTo]
theorem prTo_len (t : List Node) (S : Nat → Bool) (k : Nat) : (prTo t S k).length = rank S k := by
  rw [prTo, List.length_map, rank, List.countP_eq_length_filter]
theorem find_hit' {S : Nat → Bool} {L : List Nat} {j : Nat} (hj : j < L.length) (hpre : ∀ i, i < j → S (L.getD i 0) = false) (h : S (L.getD j 0) = true) : L.find? S = some (L.getD j 0) := by
  rw [List.find?_eq_some_iff_getElem]
  refine ⟨h, j, hj, (getD_of 0 L j hj).symm, fun i hi => ?_⟩
  have := hpre i hi
  rw [getD_of 0 L i (by omega)] at this
  rw [this]; rfl
theorem find_none' {S : Nat → Bool} {L : List Nat} (hpre : ∀ i, i < L.length → S (L.getD i 0) = false) : L.find? S = none := by
  rw [List.find?_eq_none]
  intro x hx
  obtain ⟨i, hi, rfl⟩ := List.mem_iff_getElem.1 hx
  have := hpre i hi
  rw [getD_of 0 L i hi] at this
  simp [this]
def pruneE (t : List Node) (keep : List Int) : Int := if okTree t = true then (if keep = [] then 5 else prE t keep) else 16
def pruneV (t : List Node) (keep : List Int) : List Node := if pruneE t keep = 0 then prTo t (stays t keep) t.length else []

/-! the counts -/
theorem ups_desc {t : List Node} (ht : okTree t = true) : ∀ n v, v ≤ n → v < t.length → (ups t v).Pairwise fun a b => b < a
  | n, v, h1, h2 => by
    rw [ups_eq ht h2]
    split
    · exact List.pairwise_singleton _ _
    · rename_i h0
      obtain ⟨hp, _⟩ := okTree_parN ht h2 (by omega)
      cases n with
      | zero => omega
      | succ n =>
        refine List.pairwise_cons.2 ⟨fun c hc => ?_, ups_desc ht n (parN t v) (by omega) (by omega)⟩
        have := ups_le' ht (by omega) hc
        omega
theorem ups_notin {t : List Node} (ht : okTree t = true) {v j : Nat} (hv : v < t.length) (hj : j < (ups t v).length) : (ups t v).getD j 0 ∉ (ups t v).take j := by
  intro hm
  obtain ⟨i, hi, e⟩ := List.mem_iff_getElem.1 hm
  have hi' : i < j := by
    have := hi
    rw [List.length_take] at this
    omega
  rw [List.getElem_take] at e
  rw [getD_of 0 _ j hj] at e
  have := List.pairwise_iff_getElem.1 (ups_desc ht v v (Nat.le_refl _) hv) i j (by omega) hj hi'
  omega
def belowL (t : List Node) (keep : List Int) (k : Nat) : List Int := (List.range t.length).map fun u => (belowC t keep k u : Int)
def belowJ (t : List Node) (keep : List Int) (k a j : Nat) : List Int := (List.range t.length).map fun u => ((belowC t keep k u + (if u ∈ (ups t a).take j then 1 else 0) : Nat) : Int)
theorem belowL_len (t : List Node) (keep : List Int) (k : Nat) : (belowL t keep k).length = t.length := by simp [belowL]
theorem belowJ_len (t : List Node) (keep : List Int) (k a j : Nat) : (belowJ t keep k a j).length = t.length := by simp [belowJ]
theorem belowL_at {t : List Node} {keep : List Int} {k u : Nat} (h : u < t.length) : (belowL t keep k).getD u 0 = (belowC t keep k u : Int) := by simp [belowL, List.getD, h]
theorem belowJ_at {t : List Node} {keep : List Int} {k a j u : Nat} (h : u < t.length) : (belowJ t keep k a j).getD u 0 = ((belowC t keep k u + (if u ∈ (ups t a).take j then 1 else 0) : Nat) : Int) := by simp [belowJ, List.getD, h]
theorem belowC_le (t : List Node) (keep : List Int) (k u : Nat) : belowC t keep k u ≤ k := by
  have := List.countP_le_length (p := fun i => under t u (leafAt keep i)) (l := List.range k)
  rwa [List.length_range] at this
theorem belowC_succ (t : List Node) (keep : List Int) (k u : Nat) : belowC t keep (k + 1) u = belowC t keep k u + (if u ∈ ups t (leafAt keep k) then 1 else 0) := by
  rw [belowC, belowC, List.range_succ, List.countP_append]
  simp [under]
theorem belowL_zero (t : List Node) (keep : List Int) : belowL t keep 0 = List.replicate t.length 0 := by
  refine List.ext_getElem (by simp [belowL]) fun i h1 h2 => ?_
  simp [belowL, belowC]
theorem belowJ_zero (t : List Node) (keep : List Int) (k a : Nat) : belowJ t keep k a 0 = belowL t keep k := by
  simp [belowJ, belowL]
theorem belowJ_all (t : List Node) (keep : List Int) (k : Nat) : belowJ t keep k (leafAt keep k) (ups t (leafAt keep k)).length = belowL t keep (k + 1) := by
  simp only [belowJ, belowL, List.take_length, belowC_succ]
theorem belowJ_step {t : List Node} (ht : okTree t = true) (keep : List Int) {k a j : Nat} (ha : a < t.length) (hj : j < (ups t a).length) (hx : (ups t a).getD j 0 < t.length) :
    belowJ t keep k a (j + 1) = (belowJ t keep k a j).set ((ups t a).getD j 0) ((belowJ t keep k a j).getD ((ups t a).getD j 0) 0 + 1) := by
  have hni := ups_notin ht ha hj
  rw [belowJ_at hx, if_neg hni]
  have htk : (ups t a).take (j + 1) = (ups t a).take j ++ [(ups t a).getD j 0] := by
    rw [List.take_add_one, List.getElem?_eq_getElem hj, getD_of 0 _ j hj]; rfl
  refine List.ext_getElem (by simp [belowJ]) fun i h1 h2 => ?_
  rw [List.getElem_set]
  simp only [belowJ, List.getElem_map, List.getElem_range, htk]
  by_cases e : (ups t a).getD j 0 = i
  · rw [if_pos e, if_pos (by rw [e]; exact List.mem_append_right _ (List.mem_singleton.2 rfl)), e]
    omega
  · rw [if_neg e]
    have : i ∈ (ups t a).take j ++ [(ups t a).getD j 0] ↔ i ∈ (ups t a).take j := by
      rw [List.mem_append]
      exact ⟨fun h => h.resolve_right fun h => e (List.mem_singleton.1 h).symm, .inl⟩
    simp only [this]

end Go.Cp
end

section
set_option linter.unusedVariables false
set_option linter.unusedSimpArgs false
set_option maxHeartbeats 8000000
set_option maxRecDepth 10000
namespace Go.Cp
open Go Go.Proofs Go.Vx

def indexTo (xs : List Int) (v : Int) : Int := if v ∈ xs then 0 else -1
theorem index_ok (xs : List Int) (v : Int) (hx : xs.length ≤ 1000) : ∃ i : Int, Ok Try.prog E 80 [.c (nums xs), zv v] (zv i) ∧ decide (0 ≤ i) = decide (v ∈ xs) := by
  by_cases hv : v ∈ xs
  · obtain ⟨n, hn, hn2, hn3⟩ : ∃ n : Nat, n < xs.length ∧ xs.getD n 0 = v ∧ ∀ m, m < n → xs.getD m 0 ≠ v := by
      have hex : ∃ n : Nat, n < xs.length ∧ xs.getD n 0 = v := by
        obtain ⟨n, hn, e⟩ := List.mem_iff_getElem.1 hv
        exact ⟨n, hn, by rw [getD_of 0 _ n hn]; exact e⟩
      have : ∀ B, (∃ n : Nat, n < B ∧ n < xs.length ∧ xs.getD n 0 = v) → ∃ n : Nat, n < xs.length ∧ xs.getD n 0 = v ∧ ∀ m, m < n → xs.getD m 0 ≠ v := by
        intro B
        induction B with
        | zero => rintro ⟨n, h, _⟩; omega
        | succ B ih =>
          rintro ⟨n, h1, h2, h3⟩
          by_cases hB : ∃ n : Nat, n < B ∧ n < xs.length ∧ xs.getD n 0 = v
          · exact ih hB
          · exact ⟨n, h2, h3, fun m hm e => hB ⟨m, by omega, by omega, e⟩⟩
      obtain ⟨n, h1, h2⟩ := hex
      exact this (n + 1) ⟨n, by omega, h1, h2⟩
    refine ⟨(n : Int), ?_, by rw [decide_eq_true (show (0 : Int) ≤ (n : Int) by omega), decide_eq_true hv]⟩
    refine ok_of_vc (L := []) (ts := [4]) envOK mixed Try.func80 rfl (by kernel_rfl) rfl (by kernel_rfl) rfl fun hl => ?_
    simp only [Try.f80, nums, rowsS, nodes, zv, nv, bv, sv, VZ, BEq.rfl, seval, -Int.reduceNatCast', kAgg, scD, List.all_cons, List.all_nil]
    refine LoopVC.mk (Y := Nat) (fun k => k ≤ n) (fun k => ⟨[(0, .c (nums xs)), (1, zv v), (7, nv xs.length), (8, nv k)], []⟩) (fun k => xs.length - k) ⟨0, Enter.id ?_, by omega⟩ ?_
    · simp only [nums, rowsS, nodes, zv, nv, bv, sv, VZ, BEq.rfl, seval, -Int.reduceNatCast', kAgg, scD, List.all_cons, List.all_nil]
      try rfl
    intro k hk
    have hg : decide ((k : Int) < (xs.length : Int)) = true := decide_eq_true (by omega)
    simp only [hg, getD_num xs k (by omega), num_def, nums, rowsS, nodes, zv, nv, bv, sv, VZ, BEq.rfl, seval, -Int.reduceNatCast', kAgg, scD, List.all_cons, List.all_nil]
    refine ⟨⟨Int.natCast_nonneg _, by omega⟩, ?_⟩
    simp only [int_beq, nums, rowsS, nodes, zv, nv, bv, sv, VZ, BEq.rfl, seval, -Int.reduceNatCast', kAgg, scD, List.all_cons, List.all_nil]
    refine guardB.mk (fun h => ?_) (fun h => ?_) <;> simp only [h, nums, rowsS, nodes, zv, nv, bv, sv, VZ, BEq.rfl, seval, -Int.reduceNatCast', kAgg, scD, List.all_cons, List.all_nil]
    · have h : v = xs.getD k 0 := by simpa using h
      have : k = n := by
        by_cases e : k < n
        · exact (hn3 k e h.symm).elim
        · omega
      subst this
      simp only [nums, rowsS, nodes, zv, nv, bv, sv, VZ, BEq.rfl, seval, -Int.reduceNatCast', kAgg, scD, List.all_cons, List.all_nil]
    · have h : v ≠ xs.getD k 0 := by simpa using h
      have hne : k ≠ n := fun e => h (by rw [e]; exact hn2.symm)
      simp only [wrap_nat (k := k) (by omega), nums, rowsS, nodes, zv, nv, bv, sv, VZ, BEq.rfl, seval, -Int.reduceNatCast', kAgg, scD, List.all_cons, List.all_nil]
      refine ⟨k + 1, Enter.id ?_, by omega, by show xs.length - (k + 1) < xs.length - k; omega⟩
      simp only [nums, rowsS, nodes, zv, nv, bv, sv, VZ, BEq.rfl, seval, -Int.reduceNatCast', kAgg, scD, List.all_cons, List.all_nil]
  · refine ⟨-1, ?_, by rw [decide_eq_false hv]; rfl⟩
    refine ok_of_vc (L := []) (ts := [4]) envOK mixed Try.func80 rfl (by kernel_rfl) rfl (by kernel_rfl) rfl fun hl => ?_
    simp only [Try.f80, nums, rowsS, nodes, zv, nv, bv, sv, VZ, BEq.rfl, seval, -Int.reduceNatCast', kAgg, scD, List.all_cons, List.all_nil]
    refine LoopVC.mk (Y := Nat) (fun k => k ≤ xs.length) (fun k => ⟨[(0, .c (nums xs)), (1, zv v), (7, nv xs.length), (8, nv k)], []⟩) (fun k => xs.length - k) ⟨0, Enter.id ?_, by omega⟩ ?_
    · simp only [nums, rowsS, nodes, zv, nv, bv, sv, VZ, BEq.rfl, seval, -Int.reduceNatCast', kAgg, scD, List.all_cons, List.all_nil]
      try rfl
    intro k hk
    simp only [lt_nat, nums, rowsS, nodes, zv, nv, bv, sv, VZ, BEq.rfl, seval, -Int.reduceNatCast', kAgg, scD, List.all_cons, List.all_nil]
    refine guardB.mk (fun h => ?_) (fun h => ?_)
    · have hk' : k < xs.length := by simpa using h
      clear h
      have hne : ¬ v = xs.getD k 0 := fun e => hv (by rw [e, getD_of 0 _ k hk']; exact List.getElem_mem hk')
      simp only [getD_num xs k (by omega), num_def, nums, rowsS, nodes, zv, nv, bv, sv, VZ, BEq.rfl, seval, -Int.reduceNatCast', kAgg, scD, List.all_cons, List.all_nil]
      refine ⟨⟨Int.natCast_nonneg _, by omega⟩, ?_⟩
      simp only [int_beq, decide_eq_false hne, wrap_nat (k := k) (by omega), nums, rowsS, nodes, zv, nv, bv, sv, VZ, BEq.rfl, seval, -Int.reduceNatCast', kAgg, scD, List.all_cons, List.all_nil]
      refine ⟨k + 1, Enter.id ?_, by omega, by show xs.length - (k + 1) < xs.length - k; omega⟩
      simp only [nums, rowsS, nodes, zv, nv, bv, sv, VZ, BEq.rfl, seval, -Int.reduceNatCast', kAgg, scD, List.all_cons, List.all_nil]
    · simp only [nums, rowsS, nodes, zv, nv, bv, sv, VZ, BEq.rfl, seval, -Int.reduceNatCast', kAgg, scD, List.all_cons, List.all_nil]
theorem contains_ok (xs : List Int) (v : Int) (hx : xs.length ≤ 1000) : Ok Try.prog E 57 [.c (nums xs), zv v] (bv (decide (v ∈ xs))) := by
  obtain ⟨i, h1, h2⟩ := index_ok xs v hx
  refine ok_of_vc (L := []) (ts := [4]) envOK mixed Try.func57 rfl (by kernel_rfl) rfl (by kernel_rfl) rfl fun hl => ?_
  simp only [Try.f57, nums, rowsS, nodes, zv, nv, bv, sv, VZ, BEq.rfl, seval, -Int.reduceNatCast', kAgg, scD, List.all_cons, List.all_nil]
  refine CallX.mk h1 rfl ?_
  simp only [h2, nums, rowsS, nodes, zv, nv, bv, sv, VZ, BEq.rfl, seval, -Int.reduceNatCast', kAgg, scD, List.all_cons, List.all_nil]

theorem up_nil (t : List Node) : SeqM Try.prog E 79 [.bp 2001 0, .bp 2002 0] [(2001, .cells [zv (-1)]), (2002, .cells [.c (nodes t)])] [] := by
  refine seqM_of_vc (L := []) envOK mixed Try.func79 rfl (by kernel_rfl) rfl (by kernel_rfl) rfl fun hl l => ?_
  simp only [Try.f79, nums, rowsS, nodes, zv, nv, bv, sv, VZ, BEq.rfl, seval, -Int.reduceNatCast', kAgg, scD, List.all_cons, List.all_nil]
  refine LoopY.mk (Y := Unit) (fun _ => True) (fun _ => some 0) (fun _ => ⟨[(0, yieldV l), (1, .bp 2001 0), (2, .bp 2002 0)], [(2001, .cells [zv (-1)]), (2002, .cells [.c (nodes t)])]⟩) (fun _ => 0) ⟨(), rfl, Enter.id ?_, trivial⟩ ?_
  · simp only [yieldV, nums, rowsS, nodes, zv, nv, bv, sv, VZ, BEq.rfl, seval, -Int.reduceNatCast', kAgg, scD, List.all_cons, List.all_nil]
  intro _ _
  simp only [yieldV, nums, rowsS, nodes, zv, nv, bv, sv, VZ, BEq.rfl, seval, -Int.reduceNatCast', kAgg, scD, List.all_cons, List.all_nil]
  try exact trivial

end Go.Cp
end

section
set_option linter.unusedVariables false
set_option linter.unusedSimpArgs false
set_option maxHeartbeats 8000000
set_option maxRecDepth 10000
namespace Go.Cp
open Go Go.Proofs Go.Vx

theorem nil_beq {α : Type} (l : List α) : ((l.length : Int) == 0) = decide (l = []) := by
  rw [int_beq]; congr 1
  exact propext ⟨fun h => List.length_eq_zero_iff.1 (by omega), fun h => by rw [h]; rfl⟩
theorem pos_dec {α : Type} (l : List α) : decide ((0 : Int) < (l.length : Int)) = !decide (l = []) := by
  rw [Bool.eq_iff_iff]
  simp only [decide_eq_true_eq, Bool.not_eq_true', decide_eq_false_iff_not]
  exact ⟨fun h e => by rw [e] at h; simp at h, fun h => by have := List.length_pos_iff.2 h; omega⟩
theorem pruneE_bad {t : List Node} {keep : List Int} {k : Nat} (ht : okTree t = true) (hne : keep ≠ []) (hk : k < keep.length) (hpre : ∀ j, j < k → pchk t keep j = 0) (h : pchk t keep k ≠ 0) : pruneE t keep = pchk t keep k ∧ pruneV t keep = [] := by
  have e : pruneE t keep = pchk t keep k := by rw [pruneE, if_pos ht, if_neg hne, prE_at hk hpre h]
  exact ⟨e, by rw [pruneV, e, if_neg h]⟩
theorem pruneE_good {t : List Node} {keep : List Int} (ht : okTree t = true) (hne : keep ≠ []) (hpre : ∀ j, j < keep.length → pchk t keep j = 0) : pruneE t keep = 0 ∧ pruneV t keep = prTo t (stays t keep) t.length := by
  have e : pruneE t keep = 0 := by rw [pruneE, if_pos ht, if_neg hne, prE_all hpre]
  exact ⟨e, by rw [pruneV, e, if_pos rfl]⟩
theorem pchk_eq {t : List Node} {keep : List Int} {k : Nat} {x : Int} (hx : keep.getD k 0 = x) : pchk t keep k = if inB t x = true ∧ kids t x = [] then (if x ∈ keep.take k then 6 else 0) else 3 := by rw [pchk, hx]

/-! maps of numbers -/
def aget (k : Int) : List (Int × Int) → Option Int
  | [] => none
  | p :: r => if k = p.1 then some p.2 else aget k r
def aput (k v : Int) : List (Int × Int) → List (Int × Int)
  | [] => [(k, v)]
  | p :: r => if k = p.1 then (k, v) :: r else p :: aput k v r
def pr (p : Int × Int) : Value × Value := (.int .i64 p.1, .int .i64 p.2)
theorem mfind_pr (k : Int) : ∀ es : List (Int × Int), mfind (.int .i64 k) (es.map pr) = (aget k es).map (.int .i64)
  | [] => rfl
  | p :: r => by
    have ih := mfind_pr k r
    simp only [List.map_cons, mfind, aget, pr, keyEq]
    by_cases h : k = p.1
    · simp [h]
    · have hb : (k == p.1) = false := by simpa using h
      rw [hb, if_neg h]
      exact ih
theorem mput_pr (k v : Int) : ∀ es : List (Int × Int), mput (.int .i64 k) (.int .i64 v) (es.map pr) = (aput k v es).map pr
  | [] => rfl
  | p :: r => by
    have ih := mput_pr k v r
    simp only [List.map_cons, mput, aput, pr, keyEq]
    by_cases h : k = p.1
    · simp [h, pr]
    · have hb : (k == p.1) = false := by simpa using h
      rw [hb, if_neg h]
      simp only [List.map_cons]
      exact congrArg _ ih
theorem aget_app (k : Int) (m : List (Int × Int)) : ∀ l, aget k (l ++ m) = match aget k l with | some v => some v | none => aget k m
  | [] => rfl
  | p :: r => by
    have ih := aget_app k m r
    simp only [List.cons_append, aget]
    by_cases h : k = p.1
    · rw [if_pos h, if_pos h]
    · rw [if_neg h, if_neg h]; exact ih
theorem aput_new {k : Int} (v : Int) : ∀ {l : List (Int × Int)}, aget k l = none → aput k v l = l ++ [(k, v)]
  | [], _ => rfl
  | p :: r, h => by
    simp only [aget] at h
    by_cases e : k = p.1
    · rw [if_pos e] at h; cases h
    · rw [if_neg e] at h
      simp only [aput, if_neg e, List.cons_append, aput_new v h]
/-- the numbers of what stays -/
def numb (S : Nat → Bool) (k : Nat) : List (Int × Int) := ((List.range k).filter S).map fun (u : Nat) => ((u : Int), (rank S u : Int))
theorem numb_succ (S : Nat → Bool) (k : Nat) : numb S (k + 1) = if S k = true then numb S k ++ [((k : Int), (rank S k : Int))] else numb S k := by
  rw [numb, List.range_succ, List.filter_append, List.map_append]
  by_cases h : S k = true
  · rw [if_pos h]; simp [h, numb]
  · rw [if_neg h]; simp [h, numb]
theorem aget_numb (S : Nat → Bool) (u : Nat) : ∀ k, aget (u : Int) (numb S k) = if u < k ∧ S u = true then some (rank S u : Int) else none
  | 0 => by rw [if_neg fun h => by omega]; rfl
  | k + 1 => by
    have ih := aget_numb S u k
    rw [numb_succ]
    by_cases h : S k = true
    · rw [if_pos h, aget_app, ih]
      by_cases h1 : u < k ∧ S u = true
      · rw [if_pos h1, if_pos ⟨by omega, h1.2⟩]
      · rw [if_neg h1]
        simp only [aget]
        by_cases h2 : u = k
        · subst h2
          rw [if_pos rfl, if_pos ⟨by omega, h⟩]
        · rw [if_neg (by omega), if_neg fun h3 => h1 ⟨by omega, h3.2⟩]
    · rw [if_neg h, ih]
      by_cases h2 : u = k
      · subst h2
        rw [if_neg (by omega), if_neg fun h3 => h h3.2]
      · by_cases h1 : u < k ∧ S u = true
        · rw [if_pos h1, if_pos ⟨by omega, h1.2⟩]
        · rw [if_neg h1, if_neg fun h3 => h1 ⟨by omega, h3.2⟩]

theorem upL_lt {t : List Node} (ht : okTree t = true) {k : Nat} (hk : k < t.length) {j : Nat} (hj : j < (upL t k).length) : (upL t k).getD j 0 < k := by
  have hm : (upL t k).getD j 0 ∈ upL t k := by rw [getD_of 0 _ j hj]; exact List.getElem_mem _
  generalize (upL t k).getD j 0 = x at hm
  unfold upL at hm
  split at hm
  · cases hm
  · have hp := (okTree_parN ht hk (by omega)).1
    have := ups_le' ht (by omega) hm
    omega
theorem up_par {t : List Node} (ht : okTree t = true) {k : Nat} (hk : k < t.length) : SeqM Try.prog E 79 [.bp 2001 0, .bp 2002 0] [(2001, .cells [zv (parOf t k)]), (2002, .cells [.c (nodes t)])] ((upL t k).map fun (x : Nat) => [nv x]) := by
  by_cases h : k = 0
  · subst h
    rw [okTree_root ht, upL, if_pos rfl]
    exact up_nil t
  · obtain ⟨hp, hpe⟩ := okTree_parN ht hk (by omega)
    rw [hpe, upL, if_neg h]
    exact up_seq t (parN t k) ht (by omega)
theorem Prune_ok (t : List Node) (keep : List Int) (hs : Small t) (hkl : keep.length ≤ 1000) : Ok Try.prog E 18 [.c (nodes t), .c (nums keep)] (.tp [.fr 26 ((pruneV t keep).map Node.enc), zv (pruneE t keep)]) := by
  refine ok_of_vc (L := []) (ts := [4, 5]) envOK mixed Try.func18 rfl (by kernel_rfl) rfl (by kernel_rfl) rfl fun hl => ?_
  simp only [Try.f18, nums, rowsS, nodes, zv, nv, bv, sv, Option.isSome_some, VZ, BEq.rfl, seval, -Int.reduceNatCast', kAgg, scD, List.all_cons, List.all_nil]
  refine CallX.mk (check_ok t hs) rfl ?_
  cases ht : okTree t with
  | false =>
    have hE : pruneE t keep = 16 := by rw [pruneE, ht]; rfl
    have hV : pruneV t keep = [] := by rw [pruneV, hE]; rfl
    simp only [errOf_false, hE, hV, nums, rowsS, nodes, zv, nv, bv, sv, Option.isSome_some, VZ, BEq.rfl, seval, -Int.reduceNatCast', kAgg, scD, List.all_cons, List.all_nil]
  | true =>
  have h63 := (okTree_len ht).2
  have hka : (kidsAll t).length = t.length := kidsAt_len t _
  simp only [errOf_true, nil_beq, nums, rowsS, nodes, zv, nv, bv, sv, Option.isSome_some, VZ, BEq.rfl, seval, -Int.reduceNatCast', kAgg, scD, List.all_cons, List.all_nil]
  refine guardB.mk (fun h => ?_) (fun h => ?_) <;> simp only [h, nums, rowsS, nodes, zv, nv, bv, sv, Option.isSome_some, VZ, BEq.rfl, seval, -Int.reduceNatCast', kAgg, scD, List.all_cons, List.all_nil]
  · have h : keep = [] := by simpa using h
    have hE : pruneE t keep = 5 := by rw [pruneE, if_pos ht, if_pos h]
    have hV : pruneV t keep = [] := by rw [pruneV, hE]; rfl
    simp only [hE, hV, nums, rowsS, nodes, zv, nv, bv, sv, Option.isSome_some, VZ, BEq.rfl, seval, -Int.reduceNatCast', kAgg, scD, List.all_cons, List.all_nil]
  have hne : keep ≠ [] := by simpa using h
  clear h
  refine CallX.mk (families_ok t ht) rfl ?_
  simp only [nums, rowsS, nodes, zv, nv, bv, sv, Option.isSome_some, VZ, BEq.rfl, seval, -Int.reduceNatCast', kAgg, scD, List.all_cons, List.all_nil]
  refine ⟨by omega, ?_⟩
  refine LoopVC.mk (Y := Nat) (fun k => k ≤ keep.length ∧ ∀ j, j < k → pchk t keep j = 0) (fun k => ⟨[(0, .c (nodes t)), (1, .c (nums keep)), (7, .c (rowsS (kidsAll t))), (8, .bp 8 0), (36, .c (nums keep)), (37, nv keep.length), (38, nv k)], [(8, .cells [.osl 35 0]), (35, .arr 3 0 ((belowL t keep k).map num))]⟩) (fun k => keep.length - k) ⟨0, Enter.mk [] [] [] ?_, by omega, fun j hj => by omega⟩ ?_
  · simp only [belowL_zero, List.map_replicate, nums, rowsS, nodes, zv, nv, bv, sv, Option.isSome_some, VZ, BEq.rfl, seval, -Int.reduceNatCast', kAgg, scD, List.all_cons, List.all_nil]
    exact ⟨rfl, rfl, rfl⟩
  rintro k ⟨hk, hpre⟩
  simp only [lt_nat, nums, rowsS, nodes, zv, nv, bv, sv, Option.isSome_some, VZ, BEq.rfl, seval, -Int.reduceNatCast', kAgg, scD, List.all_cons, List.all_nil]
  refine guardB.mk (fun h => ?_) (fun h => ?_)
  · have hk' : k < keep.length := by simpa using h
    clear h
    have hbad := pruneE_bad ht hne hk' hpre
    obtain ⟨x, hx⟩ : ∃ x, keep.getD k 0 = x := ⟨_, rfl⟩
    have hpc := pchk_eq (t := t) hx
    have h3 : pchk t keep k = 3 → pruneE t keep = 3 ∧ pruneV t keep = [] := fun e => by
      have := hbad (by rw [e]; decide)
      rwa [e] at this
    simp only [getD_num keep k hk', hx, num_def, nums, rowsS, nodes, zv, nv, bv, sv, Option.isSome_some, VZ, BEq.rfl, seval, -Int.reduceNatCast', kAgg, scD, List.all_cons, List.all_nil]
    refine ⟨⟨Int.natCast_nonneg k, hk'⟩, ?_⟩
    refine guardB.mk (fun h => ?_) (fun h => ?_) <;> simp only [h, nums, rowsS, nodes, zv, nv, bv, sv, Option.isSome_some, VZ, BEq.rfl, seval, -Int.reduceNatCast', kAgg, scD, List.all_cons, List.all_nil]
    · have h : x < 0 := by simpa using h
      rw [if_neg fun e => by simp only [inB, Bool.and_eq_true, decide_eq_true_eq] at e; omega] at hpc
      simp only [(h3 hpc).1, (h3 hpc).2, nums, rowsS, nodes, zv, nv, bv, sv, Option.isSome_some, VZ, BEq.rfl, seval, -Int.reduceNatCast', kAgg, scD, List.all_cons, List.all_nil]
    · have h0 : ¬ x < 0 := by simpa using h
      clear h
      refine guardB.mk (fun h => ?_) (fun h => ?_) <;> simp only [h, nums, rowsS, nodes, zv, nv, bv, sv, Option.isSome_some, VZ, BEq.rfl, seval, -Int.reduceNatCast', kAgg, scD, List.all_cons, List.all_nil]
      · have h : (t.length : Int) ≤ x := by simpa using h
        rw [if_neg fun e => by simp only [inB, Bool.and_eq_true, decide_eq_true_eq] at e; omega] at hpc
        simp only [(h3 hpc).1, (h3 hpc).2, nums, rowsS, nodes, zv, nv, bv, sv, Option.isSome_some, VZ, BEq.rfl, seval, -Int.reduceNatCast', kAgg, scD, List.all_cons, List.all_nil]
      · have h1 : ¬ (t.length : Int) ≤ x := by simpa using h
        clear h
        obtain ⟨a, rfl⟩ : ∃ a : Nat, x = (a : Int) := ⟨x.toNat, by omega⟩
        have hal : a < t.length := by omega
        have hg : (kidsAll t).getD a [] = kids t a := getD_kidsAt hal
        have hin : inB t (a : Int) = true := by
          simp only [inB, Bool.and_eq_true, decide_eq_true_eq]; omega
        simp only [getD_rowS _ a (show a < (kidsAll t).length by omega), hg, rowS_def, pos_dec, nums, rowsS, nodes, zv, nv, bv, sv, Option.isSome_some, VZ, BEq.rfl, seval, -Int.reduceNatCast', kAgg, scD, List.all_cons, List.all_nil]
        refine ⟨⟨Int.natCast_nonneg a, by omega⟩, ?_⟩
        refine guardB.mk (fun h => ?_) (fun h => ?_) <;> simp only [h, nums, rowsS, nodes, zv, nv, bv, sv, Option.isSome_some, VZ, BEq.rfl, seval, -Int.reduceNatCast', kAgg, scD, List.all_cons, List.all_nil]
        · have h : kids t a ≠ [] := by simpa using h
          rw [if_neg fun e => h e.2] at hpc
          simp only [(h3 hpc).1, (h3 hpc).2, nums, rowsS, nodes, zv, nv, bv, sv, Option.isSome_some, VZ, BEq.rfl, seval, -Int.reduceNatCast', kAgg, scD, List.all_cons, List.all_nil]
        · have hkn : kids t a = [] := by simpa using h
          clear h
          rw [if_pos ⟨hin, hkn⟩] at hpc
          simp only [← List.map_take, nums, rowsS, nodes, zv, nv, bv, sv, Option.isSome_some, VZ, BEq.rfl, seval, -Int.reduceNatCast', kAgg, scD, List.all_cons, List.all_nil]
          refine ⟨⟨⟨by omega, by omega, by omega⟩, allLen_num _⟩, ?_⟩
          refine CallX.mk (contains_ok (keep.take k) (a : Int) (by rw [List.length_take]; omega)) rfl ?_
          simp only [nums, rowsS, nodes, zv, nv, bv, sv, Option.isSome_some, VZ, BEq.rfl, seval, -Int.reduceNatCast', kAgg, scD, List.all_cons, List.all_nil]
          refine guardB.mk (fun h => ?_) (fun h => ?_) <;> simp only [h, nums, rowsS, nodes, zv, nv, bv, sv, Option.isSome_some, VZ, BEq.rfl, seval, -Int.reduceNatCast', kAgg, scD, List.all_cons, List.all_nil]
          · have h : (a : Int) ∈ keep.take k := by simpa using h
            rw [if_pos h] at hpc
            have h6 := hbad (by rw [hpc]; decide)
            rw [hpc] at h6
            simp only [h6.1, h6.2, nums, rowsS, nodes, zv, nv, bv, sv, Option.isSome_some, VZ, BEq.rfl, seval, -Int.reduceNatCast', kAgg, scD, List.all_cons, List.all_nil]
          · have h : ¬ (a : Int) ∈ keep.take k := by simpa using h
            rw [if_neg h] at hpc
            clear h
            refine CallX.mut (CallMVC.mk [] [(2001, 5001), (2002, 5002)] (up_ok t a) ?_ ?_)
            · simp only [nums, rowsS, nodes, zv, nv, bv, sv, Option.isSome_some, VZ, BEq.rfl, seval, -Int.reduceNatCast', kAgg, scD, List.all_cons, List.all_nil]
            simp only [nums, rowsS, nodes, zv, nv, bv, sv, Option.isSome_some, VZ, BEq.rfl, seval, -Int.reduceNatCast', kAgg, scD, List.all_cons, List.all_nil]
            have hU := ups_ok ht hal
            have hul := hU.len
            have hlf : leafAt keep k = a := by rw [leafAt, hx]; rfl
            have hb0 := belowJ_zero t keep k a
            have hb1 := belowJ_all t keep k
            rw [hlf] at hb1
            refine RangeVC.mk (Y := Nat) [(2001, 5001), (2002, 5002)] [] [] (up_seq t a ht hal) (fun k y => y = k ∧ k ≤ (ups t a).length) (fun j => ⟨[(0, .c (nodes t)), (1, .c (nums keep)), (7, .c (rowsS (kidsAll t))), (8, .bp 8 0), (36, .c (nums keep)), (37, nv keep.length), (38, nv k)], [(8, .cells [.osl 35 0]), (35, .arr 3 0 ((belowJ t keep k a j).map num))]⟩) rfl ?_ upES_one ⟨0, ?_, rfl, by omega⟩ ?_ ?_
            · simp only [nums, rowsS, nodes, zv, nv, bv, sv, Option.isSome_some, VZ, BEq.rfl, seval, -Int.reduceNatCast', kAgg, scD, List.all_cons, List.all_nil]
            · simp only [hb0, nums, rowsS, nodes, zv, nv, bv, sv, Option.isSome_some, VZ, BEq.rfl, seval, -Int.reduceNatCast', kAgg, scD, List.all_cons, List.all_nil]
            · rintro j0 e y he ⟨rfl, hj⟩
              obtain ⟨h1, rfl⟩ := upES_at he
              have hlt := hU.lt y h1
              have hst := belowJ_step ht keep (k := k) hal h1 hlt
              have hjl := belowJ_len t keep k a y
              have hja := belowJ_at (t := t) (keep := keep) (k := k) (a := a) (j := y) hlt
              have hbl := belowC_le t keep k ((ups t a).getD y 0)
              obtain ⟨u, hu⟩ : ∃ u, (ups t a).getD y 0 = u := ⟨_, rfl⟩
              rw [hu] at hlt hst hja hbl
              obtain ⟨c, hc⟩ : ∃ c, belowC t keep k u + (if u ∈ (ups t a).take y then 1 else 0) = c := ⟨_, rfl⟩
              have hcb : c ≤ 1001 := by rw [← hc]; split <;> omega
              rw [hc] at hja
              rw [hja] at hst
              have w1 := wrap_nat (k := c) (by omega)
              have hset : ((belowJ t keep k a y).map num).set u [.sc (.int .i64 ((c + 1 : Nat) : Int))] = (belowJ t keep k a (y + 1)).map num := by rw [set_num, hst]; rfl
              simp only [hu, getD_num _ u (show u < (belowJ t keep k a y).length by omega), hja, num_def, w1, hset, hjl, belowJ_len, row_one _ u (show u < (belowJ t keep k a y).length by omega), drop1_num, nums, rowsS, nodes, zv, nv, bv, sv, Option.isSome_some, VZ, BEq.rfl, seval, -Int.reduceNatCast', kAgg, scD, List.all_cons, List.all_nil]
              refine ⟨Int.natCast_nonneg u, hlt, hlt, Int.natCast_nonneg u, hlt, hlt, y + 1, Enter.mk [] [] [] ?_, rfl, by omega⟩
              simp only [nums, rowsS, nodes, zv, nv, bv, sv, Option.isSome_some, VZ, BEq.rfl, seval, -Int.reduceNatCast', kAgg, scD, List.all_cons, List.all_nil]
            · rintro y ⟨rfl, hj⟩
              rw [upES_len]
              simp only [hb1, wrap_nat (k := k) (by omega), nums, rowsS, nodes, zv, nv, bv, sv, Option.isSome_some, VZ, BEq.rfl, seval, -Int.reduceNatCast', kAgg, scD, List.all_cons, List.all_nil]
              refine ⟨k + 1, Enter.mk [] [] [] ?_, ⟨by omega, fun j hj => ?_⟩, by show keep.length - (k + 1) < keep.length - k; omega⟩
              · simp only [nums, rowsS, nodes, zv, nv, bv, sv, Option.isSome_some, VZ, BEq.rfl, seval, -Int.reduceNatCast', kAgg, scD, List.all_cons, List.all_nil]
              · by_cases e : j = k
                · rw [e]; exact hpc
                · exact hpre j (by omega)
  · have hk' : k = keep.length := by
      have : ¬ k < keep.length := by simpa using h
      omega
    subst hk'
    clear h
    obtain ⟨hE, hV⟩ := pruneE_good ht hne hpre
    have hbpos : ∀ u, decide ((0 : Int) < (belowC t keep keep.length u : Int)) = bpos t keep u := fun u => by rw [bpos]; exact lt_nat 0 _
    have hst : ∀ v, stays t keep v = (bpos t keep v && decide (brTo t keep v (kids t v).length ≠ 1)) := fun v => rfl
    obtain ⟨S, hS⟩ : ∃ S, stays t keep = S := ⟨_, rfl⟩
    rw [hS] at hV hst
    have hbl := belowL_len t keep keep.length
    have hbla := fun u (h : u < t.length) => belowL_at (t := t) (keep := keep) (k := keep.length) h
    obtain ⟨B, hB⟩ : ∃ B, belowL t keep keep.length = B := ⟨_, rfl⟩
    rw [hB] at hbl
    simp only [hB] at hbla
    simp only [hE, hV, hB, nums, rowsS, nodes, zv, nv, bv, sv, Option.isSome_some, VZ, BEq.rfl, seval, -Int.reduceNatCast', kAgg, scD, List.all_cons, List.all_nil]
    refine LoopVC.mk (Y := Nat) (fun k => k ≤ t.length) (fun k => ⟨[(0, .c (nodes t)), (7, .c (rowsS (kidsAll t))), (8, .bp 8 0), (12, .osl 1000 0), (13, .bp 13 0), (78, .c (nodes t)), (79, nv t.length), (80, nv k)], [(8, .cells [.osl 35 0]), (35, .arr 3 0 (B.map num)), (13, .cells [.mp 1001]), (1001, .map 3 3 ((numb S k).map pr)), (1000, .arr 26 0 ((prTo t S k).map Node.enc))]⟩) (fun k => t.length - k) ⟨0, Enter.mk [(12, (1000, 26))] [] [(1001, 77)] ?_, by omega⟩ ?_
    · simp only [nums, rowsS, nodes, zv, nv, bv, sv, Option.isSome_some, VZ, BEq.rfl, seval, -Int.reduceNatCast', kAgg, scD, List.all_cons, List.all_nil]
      first | exact ⟨rfl, ⟨rfl, rfl⟩, rfl, rfl⟩ | exact ⟨⟨rfl, rfl⟩, rfl, rfl⟩
    intro k hk
    simp only [lt_nat, nums, rowsS, nodes, zv, nv, bv, sv, Option.isSome_some, VZ, BEq.rfl, seval, -Int.reduceNatCast', kAgg, scD, List.all_cons, List.all_nil]
    refine guardB.mk (fun h => ?_) (fun h => ?_)
    · have hk' : k < t.length := by simpa using h
      clear h
      have hg : (kidsAll t).getD k [] = kids t k := getD_kidsAt hk'
      have hnd : (t.getD k Node.zero).name = nameOf t k := rfl
      have hpd : (t.getD k Node.zero).parent = parOf t k := rfl
      simp only [getD_node t k hk', node_def, hnd, hpd, getD_rowS _ k (show k < (kidsAll t).length by omega), hg, rowS_def, nums, rowsS, nodes, zv, nv, bv, sv, Option.isSome_some, VZ, BEq.rfl, seval, -Int.reduceNatCast', kAgg, scD, List.all_cons, List.all_nil]
      refine ⟨⟨Int.natCast_nonneg k, hk'⟩, ⟨Int.natCast_nonneg k, by omega⟩, ?_⟩
      have hkk : (kids t k).length ≤ t.length := kidsTo_len t (k : Int) t.length
      refine LoopVC.mk (Y := Nat) (fun j => j ≤ (kids t k).length) (fun j => ⟨[(0, .c (nodes t)), (7, .c (rowsS (kidsAll t))), (8, .bp 8 0), (12, .osl 1000 0), (13, .bp 13 0), (78, .c (nodes t)), (79, nv t.length), (80, nv k), (14, nv k), (15, .bp 15 0), (16, nv (brTo t keep k j)), (88, .c (nums (kids t k))), (89, nv (kids t k).length), (90, nv j)], [(8, .cells [.osl 35 0]), (35, .arr 3 0 (B.map num)), (13, .cells [.mp 1001]), (1001, .map 3 3 ((numb S k).map pr)), (1000, .arr 26 0 ((prTo t S k).map Node.enc)), (15, .cells [zv (parOf t k), sv (nameOf t k)])]⟩) (fun j => (kids t k).length - j) ⟨0, Enter.mk [] [] [] ?_, by omega⟩ ?_
      · simp only [nums, rowsS, nodes, zv, nv, bv, sv, Option.isSome_some, VZ, BEq.rfl, seval, -Int.reduceNatCast', kAgg, scD, List.all_cons, List.all_nil]
        exact ⟨rfl, rfl⟩
      intro j hj
      simp only [lt_nat, nums, rowsS, nodes, zv, nv, bv, sv, Option.isSome_some, VZ, BEq.rfl, seval, -Int.reduceNatCast', kAgg, scD, List.all_cons, List.all_nil]
      refine guardB.mk (fun h => ?_) (fun h => ?_)
      · have hj' : j < (kids t k).length := by simpa using h
        clear h
        obtain ⟨u, hu, hul, hup⟩ := kid_idx hj'
        have hbr : brTo t keep k (j + 1) = brTo t keep k j + (if bpos t keep u = true then 1 else 0) := by
          rw [brTo, brTo, List.range_succ, List.countP_append]
          simp only [List.countP_cons, List.countP_nil, hu, Int.toNat_natCast, Nat.zero_add]
        have hble : brTo t keep k j ≤ j := by
          have := List.countP_le_length (p := fun i => bpos t keep ((kids t k).getD i 0).toNat) (l := List.range j)
          rwa [List.length_range] at this
        simp only [getD_num (kids t k) j hj', hu, num_def, getD_num B u (by omega), hbla u hul, hbpos, hbl, nums, rowsS, nodes, zv, nv, bv, sv, Option.isSome_some, VZ, BEq.rfl, seval, -Int.reduceNatCast', kAgg, scD, List.all_cons, List.all_nil]
        refine ⟨⟨Int.natCast_nonneg j, hj'⟩, Int.natCast_nonneg u, hul, hul, ?_⟩
        refine guardB.mk (fun h => ?_) (fun h => ?_)
        · rw [if_pos h] at hbr
          simp only [h, wrap_nat (k := j) (by omega), wrap_nat (k := brTo t keep k j) (by omega), ← hbr, nums, rowsS, nodes, zv, nv, bv, sv, Option.isSome_some, VZ, BEq.rfl, seval, -Int.reduceNatCast', kAgg, scD, List.all_cons, List.all_nil]
          refine ⟨j + 1, Enter.mk [] [] [] ?_, by omega, by show (kids t k).length - (j + 1) < (kids t k).length - j; omega⟩
          simp only [nums, rowsS, nodes, zv, nv, bv, sv, Option.isSome_some, VZ, BEq.rfl, seval, -Int.reduceNatCast', kAgg, scD, List.all_cons, List.all_nil]
        · rw [if_neg (by rw [h]; decide), Nat.add_zero] at hbr
          simp only [h, wrap_nat (k := j) (by omega), nums, rowsS, nodes, zv, nv, bv, sv, Option.isSome_some, VZ, BEq.rfl, seval, -Int.reduceNatCast', kAgg, scD, List.all_cons, List.all_nil]
          refine ⟨j + 1, Enter.mk [] [] [] ?_, by omega, by show (kids t k).length - (j + 1) < (kids t k).length - j; omega⟩
          simp only [hbr, nums, rowsS, nodes, zv, nv, bv, sv, Option.isSome_some, VZ, BEq.rfl, seval, -Int.reduceNatCast', kAgg, scD, List.all_cons, List.all_nil]
      · have hj' : j = (kids t k).length := by
          have : ¬ j < (kids t k).length := by simpa using h
          omega
        subst hj'
        clear h
        have hSk := hst k
        have e1 : ((belowC t keep keep.length k : Int) == 0) = !bpos t keep k := by
          rw [int_beq, bpos, Bool.eq_iff_iff]
          simp only [decide_eq_true_eq, Bool.not_eq_true', decide_eq_false_iff_not]
          omega
        have e2 : ((brTo t keep k (kids t k).length : Int) == 1) = decide (brTo t keep k (kids t k).length = 1) := by
          rw [int_beq]; congr 1; exact propext ⟨fun h => by omega, fun h => by omega⟩
        have hps := prTo_succ t S k
        have hns := numb_succ S k
        have hout : S k = false → (prTo t S (k + 1) = prTo t S k ∧ numb S (k + 1) = numb S k) := fun h => by
          rw [if_neg (by rw [h]; decide)] at hps hns
          exact ⟨hps, hns⟩
        simp only [getD_num B k (by omega), num_def, hbla k hk', hbl, e1, e2, nums, rowsS, nodes, zv, nv, bv, sv, Option.isSome_some, VZ, BEq.rfl, seval, -Int.reduceNatCast', kAgg, scD, List.all_cons, List.all_nil]
        refine ⟨Int.natCast_nonneg k, hk', hk', ?_⟩
        have hskip : S k = false → ∀ k1, k1 = k + 1 → (prTo t S k1 = prTo t S k ∧ numb S k1 = numb S k) := fun h k1 e => by rw [e]; exact hout h
        cases hb : bpos t keep k with
        | false =>
          rw [hb, Bool.false_and] at hSk
          simp only [wrap_nat (k := k) (by omega), nums, rowsS, nodes, zv, nv, bv, sv, Option.isSome_some, VZ, BEq.rfl, seval, -Int.reduceNatCast', kAgg, scD, List.all_cons, List.all_nil]
          refine ⟨k + 1, Enter.mk [] [] [] ?_, by omega, by show t.length - (k + 1) < t.length - k; omega⟩
          simp only [(hout hSk).1, (hout hSk).2, nums, rowsS, nodes, zv, nv, bv, sv, Option.isSome_some, VZ, BEq.rfl, seval, -Int.reduceNatCast', kAgg, scD, List.all_cons, List.all_nil]
        | true =>
        rw [hb, Bool.true_and] at hSk
        simp only [nums, rowsS, nodes, zv, nv, bv, sv, Option.isSome_some, VZ, BEq.rfl, seval, -Int.reduceNatCast', kAgg, scD, List.all_cons, List.all_nil]
        refine guardB.mk (fun h => ?_) (fun h => ?_)
        · have h1 : brTo t keep k (kids t k).length = 1 := by
            have : (brTo t keep k (kids t k).length : Int) = 1 := by simpa using h
            omega
          rw [h1] at hSk
          have hSk : S k = false := hSk
          simp only [h, wrap_nat (k := k) (by omega), nums, rowsS, nodes, zv, nv, bv, sv, Option.isSome_some, VZ, BEq.rfl, seval, -Int.reduceNatCast', kAgg, scD, List.all_cons, List.all_nil]
          refine ⟨k + 1, Enter.mk [] [] [] ?_, by omega, by show t.length - (k + 1) < t.length - k; omega⟩
          simp only [(hout hSk).1, (hout hSk).2, nums, rowsS, nodes, zv, nv, bv, sv, Option.isSome_some, VZ, BEq.rfl, seval, -Int.reduceNatCast', kAgg, scD, List.all_cons, List.all_nil]
        · have h1 : ¬ brTo t keep k (kids t k).length = 1 := fun e => by
            have : ¬ (brTo t keep k (kids t k).length : Int) = 1 := by simpa using h
            exact this (by rw [e]; rfl)
          rw [decide_eq_true h1] at hSk
          rw [if_pos hSk] at hps hns
          simp only [h, nums, rowsS, nodes, zv, nv, bv, sv, Option.isSome_some, VZ, BEq.rfl, seval, -Int.reduceNatCast', kAgg, scD, List.all_cons, List.all_nil]
          refine CallX.mut (CallMVC.mk [] [(2001, 5001), (2002, 5002)] (up_ok t (parOf t k)) ?_ ?_)
          · simp only [nums, rowsS, nodes, zv, nv, bv, sv, Option.isSome_some, VZ, BEq.rfl, seval, -Int.reduceNatCast', kAgg, scD, List.all_cons, List.all_nil]
          simp only [nums, rowsS, nodes, zv, nv, bv, sv, Option.isSome_some, VZ, BEq.rfl, seval, -Int.reduceNatCast', kAgg, scD, List.all_cons, List.all_nil]
          have hes : ∀ e ∈ (upL t k).map fun (x : Nat) => [nv x], e.length = 1 := fun e he => by
            obtain ⟨x, _, rfl⟩ := List.mem_map.1 he
            try rfl
          have hfh := fun j h1 h2 h3 => find_hit' (S := S) (L := upL t k) (j := j) h1 h2 h3
          have hfn := find_none' (S := S) (L := upL t k)
          have hpo : parOut t S k = match (upL t k).find? S with | some u => (rank S u : Int) | none => -1 := rfl
          have hult := fun j h => upL_lt ht hk' (j := j) h
          have hseq := up_par ht hk'
          have hpl := prTo_len t S k
          have hrk := rank_le S k
          have hap := aput_new (rank S k : Int) (show aget (k : Int) (numb S k) = none by rw [aget_numb, if_neg fun h => by omega])
          rw [← hns] at hap
          obtain ⟨L, hL⟩ : ∃ L, upL t k = L := ⟨_, rfl⟩
          rw [hL] at hes hfn hpo hseq
          simp only [hL] at hfh hult
          refine RangeVC.cut (Y := Nat) (Z := Unit) 9 [(2001, 5001), (2002, 5002)] [] [] hseq (fun j y => y = j ∧ j ≤ L.length ∧ ∀ i, i < j → S (L.getD i 0) = false) (fun _ => ⟨[(0, .c (nodes t)), (7, .c (rowsS (kidsAll t))), (8, .bp 8 0), (12, .osl 1000 0), (13, .bp 13 0), (14, nv k), (19, .bp 19 0), (78, .c (nodes t)), (79, nv t.length), (80, nv k)], [(8, .cells [.osl 35 0]), (35, .arr 3 0 (B.map num)), (13, .cells [.mp 1001]), (1001, .map 3 3 ((numb S k).map pr)), (1000, .arr 26 0 ((prTo t S k).map Node.enc)), (19, .cells [zv (-1), sv (nameOf t k)])]⟩) (fun _ => True) (fun _ => ⟨[(0, .c (nodes t)), (7, .c (rowsS (kidsAll t))), (8, .bp 8 0), (12, .osl 1000 0), (13, .bp 13 0), (14, nv k), (19, .bp 19 0), (78, .c (nodes t)), (79, nv t.length), (80, nv k)], [(8, .cells [.osl 35 0]), (35, .arr 3 0 (B.map num)), (13, .cells [.mp 1001]), (1001, .map 3 3 ((numb S k).map pr)), (1000, .arr 26 0 ((prTo t S k).map Node.enc)), (19, .cells [zv (parOut t S k), sv (nameOf t k)])]⟩) rfl ?_ hes ⟨0, ?_, rfl, by omega, fun i hi => by omega⟩ ?_ ?_ ?_
          · simp only [nums, rowsS, nodes, zv, nv, bv, sv, Option.isSome_some, VZ, BEq.rfl, seval, -Int.reduceNatCast', kAgg, scD, List.all_cons, List.all_nil]
          · simp only [nums, rowsS, nodes, zv, nv, bv, sv, Option.isSome_some, VZ, BEq.rfl, seval, -Int.reduceNatCast', kAgg, scD, List.all_cons, List.all_nil]
          · rintro j0 e y he ⟨rfl, hj, hpre2⟩
            have hjl : y < L.length := by
              have := (List.getElem?_eq_some_iff.1 he).1
              rwa [List.length_map] at this
            rw [List.getElem?_map, List.getElem?_eq_getElem hjl, Option.map_some, Option.some.injEq] at he
            rw [← getD_of 0 L y hjl] at he
            subst he
            have hlt := hult y hjl
            have hh := hfh y hjl hpre2
            have hag := aget_numb S (L.getD y 0) k
            obtain ⟨x, hx⟩ : ∃ x, L.getD y 0 = x := ⟨_, rfl⟩
            rw [hx] at hlt hh hag
            cases hSx : S x with
            | true =>
              rw [if_pos ⟨hlt, hSx⟩] at hag
              rw [hh hSx] at hpo
              simp only [hx, mfind_pr, hag, nums, rowsS, nodes, zv, nv, bv, sv, Option.isSome_some, VZ, BEq.rfl, seval, -Int.reduceNatCast', kAgg, scD, List.all_cons, List.all_nil]
              refine ⟨(), Enter.mk [] [] [] ?_, trivial⟩
              simp only [hpo, nums, rowsS, nodes, zv, nv, bv, sv, Option.isSome_some, VZ, BEq.rfl, seval, -Int.reduceNatCast', kAgg, scD, List.all_cons, List.all_nil]
            | false =>
              rw [if_neg fun h => by rw [hSx] at h; cases h.2] at hag
              simp only [hx, mfind_pr, hag, nums, rowsS, nodes, zv, nv, bv, sv, Option.isSome_some, VZ, BEq.rfl, seval, -Int.reduceNatCast', kAgg, scD, List.all_cons, List.all_nil]
              refine ⟨y + 1, Enter.mk [] [] [] ?_, rfl, by omega, fun i hi => ?_⟩
              · simp only [nums, rowsS, nodes, zv, nv, bv, sv, Option.isSome_some, VZ, BEq.rfl, seval, -Int.reduceNatCast', kAgg, scD, List.all_cons, List.all_nil]
              · by_cases e : i = y
                · rw [e, hx]; exact hSx
                · exact hpre2 i (by omega)
          · rintro y ⟨rfl, hj, hpre2⟩
            rw [List.length_map] at hpre2
            rw [hfn hpre2] at hpo
            refine ⟨(), Enter.mk [] [] [] ?_, trivial⟩
            simp only [hpo, nums, rowsS, nodes, zv, nv, bv, sv, Option.isSome_some, VZ, BEq.rfl, seval, -Int.reduceNatCast', kAgg, scD, List.all_cons, List.all_nil]
          · intro _ _
            have hall : AllLen 2 [[D.sc (.int .i64 (parOut t S k)), D.sc (.string (nameOf t k))]] := fun y hy => by rw [List.mem_singleton.1 hy]; rfl
            have hps2 : (prTo t S (k + 1)).map Node.enc = (prTo t S k).map Node.enc ++ [[D.sc (.int .i64 (parOut t S k)), D.sc (.string (nameOf t k))]] := by rw [hps, List.map_append]; rfl
            constructor <;>
            · simp only [hpl, mput_pr, hap, wrap_nat (k := k) (by omega), ← hps2, nums, rowsS, nodes, zv, nv, bv, sv, Option.isSome_some, VZ, BEq.rfl, seval, -Int.reduceNatCast', kAgg, scD, List.all_cons, List.all_nil]
              refine ⟨⟨by omega, hall⟩, k + 1, Enter.mk [] [] [] ?_, by omega, by show t.length - (k + 1) < t.length - k; omega⟩
              simp only [nums, rowsS, nodes, zv, nv, bv, sv, Option.isSome_some, VZ, BEq.rfl, seval, -Int.reduceNatCast', kAgg, scD, List.all_cons, List.all_nil]
    · have hk' : k = t.length := by
        have : ¬ k < t.length := by simpa using h
        omega
      subst hk'
      simp only [nums, rowsS, nodes, zv, nv, bv, sv, Option.isSome_some, VZ, BEq.rfl, seval, -Int.reduceNatCast', kAgg, scD, List.all_cons, List.all_nil]

end Go.Cp
end
