/-
  Tree: the reference's Prune. Conditions: none.
-/
import Derived.Test.YtiioldgdgfdjeaaMK

section
set_option linter.unusedVariables false
set_option linter.unusedSimpArgs false
set_option maxHeartbeats 8000000
set_option maxRecDepth 10000
namespace Go.Cp
open Go Go.Proofs Go.Vx

theorem twin_mem {keep : List Int} {k : Nat} (h : k < keep.length) : keep.getD k 0 ∈ keep.take k ↔ ∃ j, j < k ∧ keep.getD j 0 = keep.getD k 0 := by
  constructor
  · intro hm
    obtain ⟨j, hj, e⟩ := List.mem_iff_getElem.1 hm
    have hj' : j < k := by
      have := hj
      rw [List.length_take] at this
      omega
    rw [List.getElem_take] at e
    exact ⟨j, hj', by rw [getD_of 0 _ j (by omega)]; exact e⟩
  · rintro ⟨j, hj, e⟩
    rw [← e, getD_of 0 _ j (by omega)]
    exact List.mem_take_iff_getElem.2 ⟨j, by omega, rfl⟩
/-! what is marked -/
def baseB (t : List Node) (keep : List Int) (i u : Nat) : Bool := (List.range i).any fun i => (List.range (i + 1)).any fun k => decide (com t (leafAt keep i) (leafAt keep k) = u)
def rowB (t : List Node) (keep : List Int) (i j u : Nat) : Bool := (List.range j).any fun k => decide (com t (leafAt keep i) (leafAt keep k) = u)
def boolsL (n : Nat) (f : Nat → Bool) : List (List D) := (List.range n).map fun u => [D.sc (.bool (f u))]
theorem boolsL_len (n : Nat) (f : Nat → Bool) : (boolsL n f).length = n := by simp [boolsL]
theorem boolsL_at {n : Nat} {f : Nat → Bool} {u : Nat} (h : u < n) : (boolsL n f).getD u [] = [D.sc (.bool (f u))] := by simp [boolsL, List.getD, h]
theorem boolsL_no (n : Nat) : List.replicate n [D.sc (.bool false)] = boolsL n fun _ => false := by
  refine List.ext_getElem (by simp [boolsL]) fun i h1 h2 => ?_
  simp [boolsL]
theorem boolsL_set {n c : Nat} (f : Nat → Bool) : (boolsL n f).set c [D.sc (.bool true)] = boolsL n fun u => f u || decide (c = u) := by
  refine List.ext_getElem (by simp [boolsL]) fun i h1 h2 => ?_
  rw [List.getElem_set]
  by_cases e : c = i
  · rw [if_pos e]; simp [boolsL, e]
  · rw [if_neg e]; simp [boolsL, e]
theorem row_succ (t : List Node) (keep : List Int) (i j u : Nat) : (baseB t keep i u || rowB t keep i (j + 1) u) = ((baseB t keep i u || rowB t keep i j u) || decide (com t (leafAt keep i) (leafAt keep j) = u)) := by
  rw [rowB, List.range_succ, List.any_append, Bool.or_assoc]
  simp [rowB]
theorem row_all (t : List Node) (keep : List Int) (i u : Nat) : (baseB t keep i u || rowB t keep i (i + 1) u) = baseB t keep (i + 1) u := by
  rw [baseB, baseB, List.range_succ, List.any_append]
  simp [rowB]
theorem boolsL_congr {n : Nat} {f g : Nat → Bool} (h : ∀ u, u < n → f u = g u) : boolsL n f = boolsL n g := List.map_congr_left fun u hu => by rw [h u (by simpa using hu)]
def numL (n : Nat) (S : Nat → Bool) (v : Nat) : List Int := (List.range n).map fun u => if u < v ∧ S u = true then (rank S u : Int) else 0
theorem numL_len (n : Nat) (S : Nat → Bool) (v : Nat) : (numL n S v).length = n := by simp [numL]
theorem numL_at {n : Nat} {S : Nat → Bool} {v u : Nat} (h : u < n) : (numL n S v).getD u 0 = if u < v ∧ S u = true then (rank S u : Int) else 0 := by simp [numL, List.getD, h]
theorem numL_zero (n : Nat) (S : Nat → Bool) : List.replicate n [D.sc (.int .i64 0)] = (numL n S 0).map num := by
  refine List.ext_getElem (by simp [numL]) fun i h1 h2 => ?_
  simp [numL, num]
theorem numL_yes {n : Nat} {S : Nat → Bool} {v : Nat} (h : S v = true) : (numL n S v).set v (rank S v : Int) = numL n S (v + 1) := by
  refine List.ext_getElem (by simp [numL]) fun i h1 h2 => ?_
  rw [List.getElem_set]
  simp only [numL, List.getElem_map, List.getElem_range]
  by_cases e : v = i
  · subst e
    rw [if_pos rfl, if_pos ⟨by omega, h⟩]
  · rw [if_neg e]
    congr 1
    exact propext ⟨fun hh => ⟨by omega, hh.2⟩, fun hh => ⟨by omega, hh.2⟩⟩
theorem numL_no {n : Nat} {S : Nat → Bool} {v : Nat} (h : S v = false) : numL n S (v + 1) = numL n S v := by
  refine List.ext_getElem (by simp [numL]) fun i h1 h2 => ?_
  simp only [numL, List.getElem_map, List.getElem_range]
  by_cases e : v = i
  · subst e
    rw [if_neg (fun hh => by rw [h] at hh; exact absurd hh.2 (by decide)), if_neg (fun hh => by omega)]
  · congr 1
    exact propext ⟨fun hh => ⟨by omega, hh.2⟩, fun hh => ⟨by omega, hh.2⟩⟩
theorem upL_par {t : List Node} (ht : okTree t = true) {v : Nat} (hv : v < t.length) : parOf t v = curOf (upL t v) 0 ∧ ∀ j, j < (upL t v).length → (upL t v).getD j 0 < t.length ∧ parOf t ((upL t v).getD j 0) = curOf (upL t v) (j + 1) := by
  by_cases h : v = 0
  · subst h
    rw [upL, if_pos rfl]
    exact ⟨okTree_root ht, fun j hj => by cases hj⟩
  · obtain ⟨hp, hpe⟩ := okTree_parN ht hv (by omega)
    have hU := ups_ok ht (show parN t v < t.length by omega)
    rw [upL, if_neg h]
    refine ⟨?_, fun j hj => ⟨hU.lt j hj, hU.par j hj⟩⟩
    rw [hpe, curOf, if_pos hU.pos, hU.head]
theorem rPrune_ok (t : List Node) (keep : List Int) (hs : Small t) (hkl : keep.length ≤ 1000) : Ok Try.prog E 30 [.c (nodes t), .c (nums keep)] (.tp [.fr 26 ((pruneV t keep).map Node.enc), zv (pruneE t keep)]) := by
  refine ok_of_vc (L := []) (ts := [4, 5]) envOK mixed Try.func30 rfl (by kernel_rfl) rfl (by kernel_rfl) rfl fun hl => ?_
  simp only [Try.f30, nums, rowsS, nodes, zv, nv, bv, sv, Option.isSome_some, VZ, BEq.rfl, seval, -Int.reduceNatCast', kAgg, scD, List.all_cons, List.all_nil]
  refine CallX.mk (rcheck_ok t hs) rfl ?_
  cases ht : okTree t with
  | false =>
    have hE : pruneE t keep = 16 := by rw [pruneE, ht]; rfl
    have hV : pruneV t keep = [] := by rw [pruneV, hE]; rfl
    simp only [errOf_false, hE, hV, nums, rowsS, nodes, zv, nv, bv, sv, Option.isSome_some, VZ, BEq.rfl, seval, -Int.reduceNatCast', kAgg, scD, List.all_cons, List.all_nil]
  | true =>
  have h63 := (okTree_len ht).2
  simp only [errOf_true, nil_beq, nums, rowsS, nodes, zv, nv, bv, sv, Option.isSome_some, VZ, BEq.rfl, seval, -Int.reduceNatCast', kAgg, scD, List.all_cons, List.all_nil]
  refine guardB.mk (fun h => ?_) (fun h => ?_) <;> simp only [h, nums, rowsS, nodes, zv, nv, bv, sv, Option.isSome_some, VZ, BEq.rfl, seval, -Int.reduceNatCast', kAgg, scD, List.all_cons, List.all_nil]
  · have h : keep = [] := by simpa using h
    have hE : pruneE t keep = 5 := by rw [pruneE, if_pos ht, if_pos h]
    have hV : pruneV t keep = [] := by rw [pruneV, hE]; rfl
    simp only [hE, hV, nums, rowsS, nodes, zv, nv, bv, sv, Option.isSome_some, VZ, BEq.rfl, seval, -Int.reduceNatCast', kAgg, scD, List.all_cons, List.all_nil]
  have hne : keep ≠ [] := by simpa using h
  clear h
  refine LoopVC.mk (Y := Nat) (fun k => k ≤ keep.length ∧ ∀ j, j < k → pchk t keep j = 0) (fun k => ⟨[(0, .c (nodes t)), (1, .c (nums keep)), (7, nv k)], []⟩) (fun k => keep.length - k) ⟨0, Enter.id ?_, by omega, fun j hj => by omega⟩ ?_
  · simp only [nums, rowsS, nodes, zv, nv, bv, sv, Option.isSome_some, VZ, BEq.rfl, seval, -Int.reduceNatCast', kAgg, scD, List.all_cons, List.all_nil]
    try rfl
  rintro k ⟨hk, hpre⟩
  simp only [lt_nat, nums, rowsS, nodes, zv, nv, bv, sv, Option.isSome_some, VZ, BEq.rfl, seval, -Int.reduceNatCast', kAgg, scD, List.all_cons, List.all_nil]
  refine guardB.mk (fun h => ?_) (fun h => ?_)
  · have hk' : k < keep.length := by simpa using h
    clear h
    have hbad := pruneE_bad ht hne hk' hpre
    have htw := twin_mem hk'
    obtain ⟨x, hx⟩ : ∃ x, keep.getD k 0 = x := ⟨_, rfl⟩
    have hpc := pchk_eq (t := t) hx
    rw [hx] at htw
    have h3 : pchk t keep k = 3 → pruneE t keep = 3 ∧ pruneV t keep = [] := fun e => by
      have := hbad (by rw [e]; decide)
      rwa [e] at this
    simp only [getD_num keep k hk', hx, num_def, nums, rowsS, nodes, zv, nv, bv, sv, Option.isSome_some, VZ, BEq.rfl, seval, -Int.reduceNatCast', kAgg, scD, List.all_cons, List.all_nil]
    refine ⟨⟨Int.natCast_nonneg k, hk'⟩, ?_⟩
    refine guardB.mk (fun h => ?_) (fun h => ?_) <;> simp only [h, getD_num keep k hk', hx, num_def, nums, rowsS, nodes, zv, nv, bv, sv, Option.isSome_some, VZ, BEq.rfl, seval, -Int.reduceNatCast', kAgg, scD, List.all_cons, List.all_nil]
    · have h : x < 0 := by simpa using h
      rw [if_neg fun e => by simp only [inB, Bool.and_eq_true, decide_eq_true_eq] at e; omega] at hpc
      simp only [(h3 hpc).1, (h3 hpc).2, nums, rowsS, nodes, zv, nv, bv, sv, Option.isSome_some, VZ, BEq.rfl, seval, -Int.reduceNatCast', kAgg, scD, List.all_cons, List.all_nil]
    · have h0 : ¬ x < 0 := by simpa using h
      clear h
      refine ⟨⟨Int.natCast_nonneg k, hk'⟩, ?_⟩
      refine guardB.mk (fun h => ?_) (fun h => ?_) <;> simp only [h, getD_num keep k hk', hx, num_def, nums, rowsS, nodes, zv, nv, bv, sv, Option.isSome_some, VZ, BEq.rfl, seval, -Int.reduceNatCast', kAgg, scD, List.all_cons, List.all_nil]
      · have h : (t.length : Int) ≤ x := by simpa using h
        rw [if_neg fun e => by simp only [inB, Bool.and_eq_true, decide_eq_true_eq] at e; omega] at hpc
        simp only [(h3 hpc).1, (h3 hpc).2, nums, rowsS, nodes, zv, nv, bv, sv, Option.isSome_some, VZ, BEq.rfl, seval, -Int.reduceNatCast', kAgg, scD, List.all_cons, List.all_nil]
      · have h1 : ¬ (t.length : Int) ≤ x := by simpa using h
        clear h
        obtain ⟨a, rfl⟩ : ∃ a : Nat, x = (a : Int) := ⟨x.toNat, by omega⟩
        have hal : a < t.length := by omega
        have hin : inB t (a : Int) = true := by
          simp only [inB, Bool.and_eq_true, decide_eq_true_eq]; omega
        have hxa : keep.getD k 0 = (a : Int) := hx
        refine ⟨⟨Int.natCast_nonneg k, hk'⟩, ?_⟩
        refine CallX.mk (Ok.val (children_ok t (a : Nat) h63)) rfl ?_
        simp only [pos_dec, nums, rowsS, nodes, zv, nv, bv, sv, Option.isSome_some, VZ, BEq.rfl, seval, -Int.reduceNatCast', kAgg, scD, List.all_cons, List.all_nil]
        refine guardB.mk (fun h => ?_) (fun h => ?_) <;> simp only [h, nums, rowsS, nodes, zv, nv, bv, sv, Option.isSome_some, VZ, BEq.rfl, seval, -Int.reduceNatCast', kAgg, scD, List.all_cons, List.all_nil]
        · have h : kids t a ≠ [] := by simpa using h
          rw [if_neg fun e => h e.2] at hpc
          simp only [(h3 hpc).1, (h3 hpc).2, nums, rowsS, nodes, zv, nv, bv, sv, Option.isSome_some, VZ, BEq.rfl, seval, -Int.reduceNatCast', kAgg, scD, List.all_cons, List.all_nil]
        · have hkn : kids t a = [] := by simpa using h
          clear h
          rw [if_pos ⟨hin, hkn⟩] at hpc
          refine LoopVC.mk (Y := Nat) (fun j => j ≤ k ∧ ∀ i, i < j → keep.getD i 0 ≠ (a : Int)) (fun j => ⟨[(0, .c (nodes t)), (1, .c (nums keep)), (7, nv k), (8, nv j)], []⟩) (fun j => k - j) ⟨0, Enter.id ?_, by omega, fun i hi => by omega⟩ ?_
          · simp only [nums, rowsS, nodes, zv, nv, bv, sv, Option.isSome_some, VZ, BEq.rfl, seval, -Int.reduceNatCast', kAgg, scD, List.all_cons, List.all_nil]
            try rfl
          rintro j ⟨hj, hno⟩
          simp only [lt_nat, nums, rowsS, nodes, zv, nv, bv, sv, Option.isSome_some, VZ, BEq.rfl, seval, -Int.reduceNatCast', kAgg, scD, List.all_cons, List.all_nil]
          refine guardB.mk (fun h => ?_) (fun h => ?_)
          · have hj' : j < k := by simpa using h
            clear h
            simp only [getD_num keep j (by omega), getD_num keep k hk', hxa, num_def, int_beq, nums, rowsS, nodes, zv, nv, bv, sv, Option.isSome_some, VZ, BEq.rfl, seval, -Int.reduceNatCast', kAgg, scD, List.all_cons, List.all_nil]
            refine ⟨⟨Int.natCast_nonneg j, by omega⟩, ⟨Int.natCast_nonneg k, hk'⟩, ?_⟩
            refine guardB.mk (fun h => ?_) (fun h => ?_) <;> simp only [h, nums, rowsS, nodes, zv, nv, bv, sv, Option.isSome_some, VZ, BEq.rfl, seval, -Int.reduceNatCast', kAgg, scD, List.all_cons, List.all_nil]
            · have h : keep.getD j 0 = (a : Int) := by simpa using h
              rw [if_pos (htw.2 ⟨j, hj', h⟩)] at hpc
              have h6 := hbad (by rw [hpc]; decide)
              rw [hpc] at h6
              simp only [h6.1, h6.2, nums, rowsS, nodes, zv, nv, bv, sv, Option.isSome_some, VZ, BEq.rfl, seval, -Int.reduceNatCast', kAgg, scD, List.all_cons, List.all_nil]
            · have h : ¬ keep.getD j 0 = (a : Int) := by simpa using h
              simp only [wrap_nat (k := j) (by omega), nums, rowsS, nodes, zv, nv, bv, sv, Option.isSome_some, VZ, BEq.rfl, seval, -Int.reduceNatCast', kAgg, scD, List.all_cons, List.all_nil]
              refine ⟨j + 1, Enter.id ?_, ⟨by omega, fun i hi => ?_⟩, by show k - (j + 1) < k - j; omega⟩
              · simp only [nums, rowsS, nodes, zv, nv, bv, sv, Option.isSome_some, VZ, BEq.rfl, seval, -Int.reduceNatCast', kAgg, scD, List.all_cons, List.all_nil]
              · by_cases e : i = j
                · rw [e]; exact h
                · exact hno i (by omega)
          · have hj' : j = k := by
              have : ¬ j < k := by simpa using h
              omega
            subst hj'
            clear h
            rw [if_neg fun hm => by obtain ⟨i, hi, e⟩ := htw.1 hm; exact hno i hi e] at hpc
            simp only [wrap_nat (k := j) (by omega), nums, rowsS, nodes, zv, nv, bv, sv, Option.isSome_some, VZ, BEq.rfl, seval, -Int.reduceNatCast', kAgg, scD, List.all_cons, List.all_nil]
            refine ⟨j + 1, Enter.id ?_, ⟨by omega, fun i hi => ?_⟩, by show keep.length - (j + 1) < keep.length - j; omega⟩
            · simp only [nums, rowsS, nodes, zv, nv, bv, sv, Option.isSome_some, VZ, BEq.rfl, seval, -Int.reduceNatCast', kAgg, scD, List.all_cons, List.all_nil]
            · by_cases e : i = j
              · rw [e]; exact hpc
              · exact hpre i (by omega)
  · have hk' : k = keep.length := by
      have : ¬ k < keep.length := by simpa using h
      omega
    subst hk'
    clear h
    obtain ⟨hE, hV⟩ := pruneE_good ht hne hpre
    have hlv := leavesIn_of hpre
    obtain ⟨S, hS⟩ : ∃ S, stays t keep = S := ⟨_, rfl⟩
    rw [hS] at hV
    have hSr : ∀ v, v < t.length → S v = baseB t keep keep.length v := fun v hv => by rw [← hS]; exact stays_eq ht hlv hv
    simp only [hE, hV, boolsL_no, nums, rowsS, nodes, zv, nv, bv, sv, Option.isSome_some, VZ, BEq.rfl, seval, -Int.reduceNatCast', kAgg, scD, List.all_cons, List.all_nil]
    refine ⟨⟨Int.natCast_nonneg _, by omega⟩, ?_⟩
    refine LoopVC.mk (Y := Nat) (fun k => k ≤ keep.length) (fun k => ⟨[(0, .c (nodes t)), (1, .c (nums keep)), (9, .osl 71 0), (10, nv k)], [(71, .arr 4 0 (boolsL t.length (baseB t keep k)))]⟩) (fun k => keep.length - k) ⟨0, Enter.mk [] [] [] ?_, by omega⟩ ?_
    · have e0 : baseB t keep 0 = fun _ => false := by funext u; rfl
      simp only [e0, nums, rowsS, nodes, zv, nv, bv, sv, Option.isSome_some, VZ, BEq.rfl, seval, -Int.reduceNatCast', kAgg, scD, List.all_cons, List.all_nil]
      try rfl
    intro k hk
    simp only [lt_nat, nums, rowsS, nodes, zv, nv, bv, sv, Option.isSome_some, VZ, BEq.rfl, seval, -Int.reduceNatCast', kAgg, scD, List.all_cons, List.all_nil]
    refine guardB.mk (fun h => ?_) (fun h => ?_)
    · have hk' : k < keep.length := by simpa using h
      clear h
      obtain ⟨a, ha, hal, _⟩ := hlv k hk'
      have hla : leafAt keep k = a := by rw [leafAt, ha]; rfl
      simp only [nums, rowsS, nodes, zv, nv, bv, sv, Option.isSome_some, VZ, BEq.rfl, seval, -Int.reduceNatCast', kAgg, scD, List.all_cons, List.all_nil]
      refine LoopVC.mk (Y := Nat) (fun j => j ≤ k + 1) (fun j => ⟨[(0, .c (nodes t)), (1, .c (nums keep)), (9, .osl 71 0), (10, nv k), (11, nv j)], [(71, .arr 4 0 (boolsL t.length fun u => baseB t keep k u || rowB t keep k j u))]⟩) (fun j => k + 1 - j) ⟨0, Enter.mk [] [] [] ?_, by omega⟩ ?_
      · have e0 : (fun u => baseB t keep k u || rowB t keep k 0 u) = baseB t keep k := by funext u; simp [rowB]
        simp only [e0, nums, rowsS, nodes, zv, nv, bv, sv, Option.isSome_some, VZ, BEq.rfl, seval, -Int.reduceNatCast', kAgg, scD, List.all_cons, List.all_nil]
        try rfl
      intro j hj
      simp only [le_nat, nums, rowsS, nodes, zv, nv, bv, sv, Option.isSome_some, VZ, BEq.rfl, seval, -Int.reduceNatCast', kAgg, scD, List.all_cons, List.all_nil]
      refine guardB.mk (fun h => ?_) (fun h => ?_)
      · have hj' : j ≤ k := by simpa using h
        clear h
        obtain ⟨b, hb, hbl, _⟩ := hlv j (by omega)
        have hlb : leafAt keep j = b := by rw [leafAt, hb]; rfl
        have hcl := com_lt ht hal hbl
        have hrs := fun u => row_succ t keep k j u
        rw [hla, hlb] at hrs
        have hset := boolsL_set (n := t.length) (c := com t a b) fun u => baseB t keep k u || rowB t keep k j u
        simp only [← hrs] at hset
        simp only [getD_num keep k hk', getD_num keep j (by omega), ha, hb, num_def, nums, rowsS, nodes, zv, nv, bv, sv, Option.isSome_some, VZ, BEq.rfl, seval, -Int.reduceNatCast', kAgg, scD, List.all_cons, List.all_nil]
        refine ⟨⟨Int.natCast_nonneg k, hk'⟩, ⟨Int.natCast_nonneg j, by omega⟩, ?_⟩
        refine CallX.mk (rcommon_ok t a b ht hal hbl) rfl ?_
        simp only [boolsL_at hcl, boolsL_len, hset, wrap_nat (k := j) (by omega), nums, rowsS, nodes, zv, nv, bv, sv, Option.isSome_some, VZ, BEq.rfl, seval, -Int.reduceNatCast', kAgg, scD, List.all_cons, List.all_nil]
        refine ⟨Int.natCast_nonneg _, hcl, hcl, j + 1, Enter.mk [] [] [] ?_, by omega, by show k + 1 - (j + 1) < k + 1 - j; omega⟩
        simp only [nums, rowsS, nodes, zv, nv, bv, sv, Option.isSome_some, VZ, BEq.rfl, seval, -Int.reduceNatCast', kAgg, scD, List.all_cons, List.all_nil]
      · have hj' : j = k + 1 := by
          have : ¬ j ≤ k := by simpa using h
          omega
        subst hj'
        clear h
        have hra : (fun u => baseB t keep k u || rowB t keep k (k + 1) u) = baseB t keep (k + 1) := funext fun u => row_all t keep k u
        simp only [hra, wrap_nat (k := k) (by omega), nums, rowsS, nodes, zv, nv, bv, sv, Option.isSome_some, VZ, BEq.rfl, seval, -Int.reduceNatCast', kAgg, scD, List.all_cons, List.all_nil]
        refine ⟨k + 1, Enter.mk [] [] [] ?_, by omega, by show keep.length - (k + 1) < keep.length - k; omega⟩
        simp only [nums, rowsS, nodes, zv, nv, bv, sv, Option.isSome_some, VZ, BEq.rfl, seval, -Int.reduceNatCast', kAgg, scD, List.all_cons, List.all_nil]
    · have hk' : k = keep.length := by
        have : ¬ k < keep.length := by simpa using h
        omega
      subst hk'
      clear h
      rw [boolsL_congr (g := S) fun u hu => (hSr u hu).symm]
      simp only [numL_zero t.length S, nums, rowsS, nodes, zv, nv, bv, sv, Option.isSome_some, VZ, BEq.rfl, seval, -Int.reduceNatCast', kAgg, scD, List.all_cons, List.all_nil]
      refine ⟨⟨Int.natCast_nonneg _, by omega⟩, ?_⟩
      refine LoopVC.mk (Y := Nat) (fun v => v ≤ t.length) (fun v => ⟨[(0, .c (nodes t)), (9, .osl 71 0), (12, .osl 97 0), (13, .osl 1000 0), (14, nv v)], [(71, .arr 4 0 (boolsL t.length S)), (97, .arr 3 0 ((numL t.length S v).map num)), (1000, .arr 26 0 ((prTo t S v).map Node.enc))]⟩) (fun v => t.length - v) ⟨0, Enter.mk [(13, (1000, 26))] [] [] ?_, by omega⟩ ?_
      · simp only [nums, rowsS, nodes, zv, nv, bv, sv, Option.isSome_some, VZ, BEq.rfl, seval, -Int.reduceNatCast', kAgg, scD, List.all_cons, List.all_nil]
        exact ⟨⟨rfl, rfl⟩, rfl⟩
      intro v hv
      simp only [lt_nat, nums, rowsS, nodes, zv, nv, bv, sv, Option.isSome_some, VZ, BEq.rfl, seval, -Int.reduceNatCast', kAgg, scD, List.all_cons, List.all_nil]
      refine guardB.mk (fun h => ?_) (fun h => ?_)
      · have hv' : v < t.length := by simpa using h
        clear h
        have hnd : (t.getD v Node.zero).name = nameOf t v := rfl
        have hpd : (t.getD v Node.zero).parent = parOf t v := rfl
        simp only [boolsL_at hv', boolsL_len, getD_node t v hv', node_def, hnd, hpd, nums, rowsS, nodes, zv, nv, bv, sv, Option.isSome_some, VZ, BEq.rfl, seval, -Int.reduceNatCast', kAgg, scD, List.all_cons, List.all_nil]
        refine ⟨Int.natCast_nonneg v, hv', hv', ?_⟩
        have hps := prTo_succ t S v
        cases hSv : S v with
        | false =>
          rw [if_neg (by rw [hSv]; decide)] at hps
          simp only [wrap_nat (k := v) (by omega), nums, rowsS, nodes, zv, nv, bv, sv, Option.isSome_some, VZ, BEq.rfl, seval, -Int.reduceNatCast', kAgg, scD, List.all_cons, List.all_nil]
          refine ⟨v + 1, Enter.mk [] [] [] ?_, by omega, by show t.length - (v + 1) < t.length - v; omega⟩
          simp only [hps, numL_no hSv, nums, rowsS, nodes, zv, nv, bv, sv, Option.isSome_some, VZ, BEq.rfl, seval, -Int.reduceNatCast', kAgg, scD, List.all_cons, List.all_nil]
        | true =>
          rw [if_pos hSv] at hps
          have hyes := numL_yes (n := t.length) hSv
          obtain ⟨hL0, hLs⟩ := upL_par ht hv'
          have hfh := fun j h1 h2 h3 => find_hit' (S := S) (L := upL t v) (j := j) h1 h2 h3
          have hfn := find_none' (S := S) (L := upL t v)
          have hpo : parOut t S v = match (upL t v).find? S with | some u => (rank S u : Int) | none => -1 := rfl
          have hult := fun j h => upL_lt ht hv' (j := j) h
          have hpl := prTo_len t S v
          have hrk := rank_le S v
          simp only [getD_node t v hv', node_def, hnd, hpd, nums, rowsS, nodes, zv, nv, bv, sv, Option.isSome_some, VZ, BEq.rfl, seval, -Int.reduceNatCast', kAgg, scD, List.all_cons, List.all_nil]
          obtain ⟨L, hL⟩ : ∃ L, upL t v = L := ⟨_, rfl⟩
          rw [hL] at hfn hpo hL0
          simp only [hL] at hfh hult hLs
          refine ⟨⟨Int.natCast_nonneg v, hv'⟩, ⟨Int.natCast_nonneg v, hv'⟩, ?_⟩
          refine LoopVC.cut (Y := Nat) (Z := Unit) 10 (fun j => j ≤ L.length ∧ ∀ i, i < j → S (L.getD i 0) = false) (fun j => ⟨[(0, .c (nodes t)), (9, .osl 71 0), (12, .osl 97 0), (13, .osl 1000 0), (14, nv v), (15, .bp 15 0), (16, zv (curOf L j))], [(71, .arr 4 0 (boolsL t.length S)), (97, .arr 3 0 ((numL t.length S v).map num)), (1000, .arr 26 0 ((prTo t S v).map Node.enc)), (15, .cells [zv (-1), sv (nameOf t v)])]⟩) (fun j => L.length - j) (fun _ => True) (fun _ => ⟨[(0, .c (nodes t)), (9, .osl 71 0), (12, .osl 97 0), (13, .osl 1000 0), (14, nv v), (15, .bp 15 0)], [(71, .arr 4 0 (boolsL t.length S)), (97, .arr 3 0 ((numL t.length S v).map num)), (1000, .arr 26 0 ((prTo t S v).map Node.enc)), (15, .cells [zv (parOut t S v), sv (nameOf t v)])]⟩) ⟨0, Enter.mk [] [] [] ?_, by omega, fun i hi => by omega⟩ ?_ ?_
          · simp only [hL0, nums, rowsS, nodes, zv, nv, bv, sv, Option.isSome_some, VZ, BEq.rfl, seval, -Int.reduceNatCast', kAgg, scD, List.all_cons, List.all_nil]
          · rintro j ⟨hj, hno⟩
            have e1 : decide ((0 : Int) ≤ curOf L j) = decide (j < L.length) := by
              congr 1
              unfold curOf
              split
              · exact propext ⟨fun _ => by assumption, fun _ => by omega⟩
              · exact propext ⟨fun h => by omega, fun h => by omega⟩
            simp only [e1, nums, rowsS, nodes, zv, nv, bv, sv, Option.isSome_some, VZ, BEq.rfl, seval, -Int.reduceNatCast', kAgg, scD, List.all_cons, List.all_nil]
            refine guardB.mk (fun h => ?_) (fun h => ?_)
            · have hj' : j < L.length := by simpa using h
              clear h
              have hlt := hult j hj'
              obtain ⟨hl1, hl2⟩ := hLs j hj'
              have hh := hfh j hj' hno
              have hcur : curOf L j = ((L.getD j 0 : Nat) : Int) := by rw [curOf, if_pos hj']
              have hnu := numL_at (S := S) (v := v) hl1
              obtain ⟨u, hu⟩ : ∃ u, L.getD j 0 = u := ⟨_, rfl⟩
              rw [hu] at hlt hl1 hl2 hh hcur hnu
              have hl2 : (t.getD u Node.zero).parent = curOf L (j + 1) := hl2
              simp only [hcur, boolsL_at hl1, boolsL_len, nums, rowsS, nodes, zv, nv, bv, sv, Option.isSome_some, VZ, BEq.rfl, seval, -Int.reduceNatCast', kAgg, scD, List.all_cons, List.all_nil]
              refine ⟨Int.natCast_nonneg u, hl1, hl1, ?_⟩
              cases hSu : S u with
              | true =>
                rw [if_pos ⟨hlt, hSu⟩] at hnu
                rw [hh hSu] at hpo
                simp only [getD_num (numL t.length S v) u (by rw [numL_len]; exact hl1), hnu, numL_len, num_def, nums, rowsS, nodes, zv, nv, bv, sv, Option.isSome_some, VZ, BEq.rfl, seval, -Int.reduceNatCast', kAgg, scD, List.all_cons, List.all_nil]
                refine ⟨Int.natCast_nonneg u, hl1, hl1, (), Enter.mk [] [] [] ?_, trivial⟩
                simp only [hpo, nums, rowsS, nodes, zv, nv, bv, sv, Option.isSome_some, VZ, BEq.rfl, seval, -Int.reduceNatCast', kAgg, scD, List.all_cons, List.all_nil]
              | false =>
                simp only [getD_node t u hl1, node_def, hl2, nums, rowsS, nodes, zv, nv, bv, sv, Option.isSome_some, VZ, BEq.rfl, seval, -Int.reduceNatCast', kAgg, scD, List.all_cons, List.all_nil]
                refine ⟨⟨Int.natCast_nonneg u, hl1⟩, j + 1, Enter.mk [] [] [] ?_, ⟨by omega, fun i hi => ?_⟩, by show L.length - (j + 1) < L.length - j; omega⟩
                · simp only [nums, rowsS, nodes, zv, nv, bv, sv, Option.isSome_some, VZ, BEq.rfl, seval, -Int.reduceNatCast', kAgg, scD, List.all_cons, List.all_nil]
                · by_cases e : i = j
                  · rw [e, hu]; exact hSu
                  · exact hno i (by omega)
            · have hj' : j = L.length := by
                have : ¬ j < L.length := by simpa using h
                omega
              subst hj'
              rw [hfn hno] at hpo
              refine ⟨(), Enter.mk [] [] [] ?_, trivial⟩
              simp only [hpo, nums, rowsS, nodes, zv, nv, bv, sv, Option.isSome_some, VZ, BEq.rfl, seval, -Int.reduceNatCast', kAgg, scD, List.all_cons, List.all_nil]
          · intro _ _
            have hall : AllLen 2 [[D.sc (.int .i64 (parOut t S v)), D.sc (.string (nameOf t v))]] := fun y hy => by rw [List.mem_singleton.1 hy]; rfl
            have hps2 : (prTo t S (v + 1)).map Node.enc = (prTo t S v).map Node.enc ++ [[D.sc (.int .i64 (parOut t S v)), D.sc (.string (nameOf t v))]] := by rw [hps, List.map_append]; rfl
            have hset : ((numL t.length S v).map num).set v [.sc (.int .i64 (rank S v : Int))] = (numL t.length S (v + 1)).map num := by rw [set_num, hyes]
            simp only [hpl, wrap_nat (k := v) (by omega), ← hps2, hset, numL_len, row_one _ v (show v < (numL t.length S v).length by rw [numL_len]; exact hv'), drop1_num, nums, rowsS, nodes, zv, nv, bv, sv, Option.isSome_some, VZ, BEq.rfl, seval, -Int.reduceNatCast', kAgg, scD, List.all_cons, List.all_nil]
            refine ⟨Int.natCast_nonneg v, hv', hv', ⟨by omega, hall⟩, v + 1, Enter.mk [] [] [] ?_, by omega, by show t.length - (v + 1) < t.length - v; omega⟩
            simp only [nums, rowsS, nodes, zv, nv, bv, sv, Option.isSome_some, VZ, BEq.rfl, seval, -Int.reduceNatCast', kAgg, scD, List.all_cons, List.all_nil]
      · have hv' : v = t.length := by
          have : ¬ v < t.length := by simpa using h
          omega
        subst hv'
        simp only [nums, rowsS, nodes, zv, nv, bv, sv, Option.isSome_some, VZ, BEq.rfl, seval, -Int.reduceNatCast', kAgg, scD, List.all_cons, List.all_nil]

end Go.Cp
end
