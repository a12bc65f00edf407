/-
  Tree: the law TreeWays. Conditions: none.
-/
import Derived.Test.YtiioldgdgfdjeaaMK
set_option linter.unusedVariables false
set_option linter.unusedSimpArgs false
set_option maxHeartbeats 8000000
set_option maxRecDepth 10000
namespace Go.Cp
open Go Go.Proofs Go.Vx

theorem com_comm {t : List Node} (h : okTree t = true) {a b : Nat} (ha : a < t.length) (hb : b < t.length) : com t a b = com t b a := by
  have h1 := com_mem h ha hb
  have h2 := com_mem h hb ha
  have h3 := ups_le' h (com_lt h hb ha) (com_max h hb ha h1.2 h1.1)
  have h4 := ups_le' h (com_lt h ha hb) (com_max h ha hb h2.2 h2.1)
  omega
theorem rp_get {t : List Node} {v k : Nat} (h : k < (ups t v).length) : (rpath t v).getD k 0 = (ups t v).getD ((ups t v).length - 1 - k) 0 := by
  have h2 : k < (rpath t v).length := by rw [rpath_len]; exact h
  rw [getD_of 0 _ k h2, getD_of 0 _ _ (by omega)]
  simp only [rpath]
  rw [List.getElem_reverse]
theorem par_pos {t : List Node} (h : okTree t = true) {x : Nat} (hx : x < t.length) : (0 < x ∧ 0 ≤ parOf t x) ∨ (x = 0 ∧ parOf t x = -1) := by
  by_cases e : x = 0
  · subst e; exact .inr ⟨rfl, okTree_root h⟩
  · exact .inl ⟨by omega, (okTree_par h hx (by omega)).1⟩
theorem rp_zero {t : List Node} (h : okTree t = true) {v : Nat} (hv : v < t.length) : (rpath t v).getD 0 0 = 0 := by
  have hU := ups_ok h hv
  have hp := hU.pos
  rw [rp_get hp]
  have h1 := hU.par ((ups t v).length - 1 - 0) (by omega)
  have h2 := hU.lt ((ups t v).length - 1 - 0) (by omega)
  rw [if_neg (by omega)] at h1
  rcases par_pos h h2 with ⟨_, h3⟩ | ⟨h3, _⟩
  · omega
  · exact h3
theorem rp_last {t : List Node} (h : okTree t = true) {v : Nat} (hv : v < t.length) : (rpath t v).getD ((ups t v).length - 1) 0 = v := by
  have hU := ups_ok h hv
  have hp := hU.pos
  rw [rp_get (by omega), show (ups t v).length - 1 - ((ups t v).length - 1) = 0 by omega]
  exact hU.head
theorem rp_step {t : List Node} (h : okTree t = true) {v k : Nat} (hv : v < t.length) (hk : k + 1 < (ups t v).length) : 0 < (rpath t v).getD (k + 1) 0 ∧ (rpath t v).getD (k + 1) 0 < t.length ∧ parOf t ((rpath t v).getD (k + 1) 0) = (((rpath t v).getD k 0 : Nat) : Int) := by
  have hU := ups_ok h hv
  rw [rp_get hk, rp_get (by omega)]
  have h1 := hU.par ((ups t v).length - 1 - (k + 1)) (by omega)
  have h2 := hU.lt ((ups t v).length - 1 - (k + 1)) (by omega)
  rw [if_pos (by omega), show (ups t v).length - 1 - (k + 1) + 1 = (ups t v).length - 1 - k by omega] at h1
  refine ⟨?_, h2, h1⟩
  rcases par_pos h h2 with ⟨h3, _⟩ | ⟨_, h3⟩
  · exact h3
  · omega
theorem chk_ok1 {t : List Node} (h : okTree t = true) {a : Nat} (ha : a < t.length) : chkE t [(a : Int)] = 0 := by
  rw [chk_sing, if_pos h, inB, decide_eq_true (show (a : Int) < (t.length : Int) by omega), decide_eq_true (show (0 : Int) ≤ (a : Int) by omega)]; rfl
theorem chk_ok2 {t : List Node} (h : okTree t = true) {a b : Nat} (ha : a < t.length) (hb : b < t.length) : chkE t [(a : Int), (b : Int)] = 0 := by
  rw [chk_pair, chk_ok1 h ha, if_pos rfl, chk_ok1 h hb]

theorem ways_law (t : List Node) (x y : Nat) (hs : Small t) (hx : x < 256) (hy : y < 256) : Ok Try.prog E 8 [.c (nodes t), .c (.sc (.int .u8 x)), .c (.sc (.int .u8 y))] (bv true) := by
  refine ok_of_vc (L := []) (ts := [6]) envOK mixed Try.func8 rfl (by kernel_rfl) rfl (by kernel_rfl) rfl fun hl => ?_
  simp only [Try.f8, nums, rowsS, nodes, zv, nv, bv, sv, VZ, BEq.rfl, seval, -Int.reduceNatCast', kAgg, scD, List.all_cons, List.all_nil]
  refine guardB.mk (fun h => ?_) (fun h => ?_) <;> simp only [h, nums, rowsS, nodes, zv, nv, bv, sv, VZ, BEq.rfl, seval, -Int.reduceNatCast', kAgg, scD, List.all_cons, List.all_nil]
  · refine CallX.mk works_ok rfl ?_
    simp only [nums, rowsS, nodes, zv, nv, bv, sv, VZ, BEq.rfl, seval, -Int.reduceNatCast', kAgg, scD, List.all_cons, List.all_nil]
  clear h
  refine CallX.mk (check_ok t hs) rfl ?_
  cases ht : okTree t with
  | false =>
    simp only [errOf_false, nums, rowsS, nodes, zv, nv, bv, sv, VZ, BEq.rfl, seval, -Int.reduceNatCast', kAgg, scD, List.all_cons, List.all_nil]
    refine CallX.mk works_ok rfl ?_
    simp only [nums, rowsS, nodes, zv, nv, bv, sv, VZ, BEq.rfl, seval, -Int.reduceNatCast', kAgg, scD, List.all_cons, List.all_nil]
  | true =>
  obtain ⟨hn, h63⟩ := okTree_len ht
  have ea : (IntKind.i64.wrap (x : Int)).tmod (t.length : Int) = ((x % t.length : Nat) : Int) := by rw [wrap_of (Int.natCast_nonneg _) (by omega)]; exact (Int.ofNat_tmod _ _).symm
  have eb : (IntKind.i64.wrap (y : Int)).tmod (t.length : Int) = ((y % t.length : Nat) : Int) := by rw [wrap_of (Int.natCast_nonneg _) (by omega)]; exact (Int.ofNat_tmod _ _).symm
  have ha := Nat.mod_lt x hn
  have hb := Nat.mod_lt y hn
  simp only [errOf_true, ea, eb, nums, rowsS, nodes, zv, nv, bv, sv, VZ, BEq.rfl, seval, -Int.reduceNatCast', kAgg, scD, List.all_cons, List.all_nil]
  clear ea eb
  obtain ⟨a, ea⟩ : ∃ a, x % t.length = a := ⟨_, rfl⟩
  obtain ⟨b, eb⟩ : ∃ b, y % t.length = b := ⟨_, rfl⟩
  rw [ea] at ha
  rw [eb] at hb
  simp only [ea, eb]
  have hca := chk_ok1 ht ha
  have hcb := chk_ok1 ht hb
  have hpa : pathV t (a : Int) = (upsI t a).reverse := by rw [pathV, if_pos hca]; rfl
  have hpb : pathV t (b : Int) = (upsI t b).reverse := by rw [pathV, if_pos hcb]; rfl
  have hda : depthV t (a : Int) = ((ups t a).length : Int) - 1 := by rw [depthV, if_pos hca]; rfl
  have hab : comV t (a : Int) (b : Int) = (com t a b : Int) := by rw [comV, if_pos (chk_ok2 ht ha hb)]; rfl
  have hba : comV t (b : Int) (a : Int) = (com t a b : Int) := by rw [comV, if_pos (chk_ok2 ht hb ha), com_comm ht ha hb]; rfl
  have haa : comV t (a : Int) (a : Int) = (a : Int) := by rw [comV, if_pos (chk_ok2 ht ha ha)]; show ((com t a a : Nat) : Int) = _; rw [com_same]
  have hUa := ups_ok ht ha
  have hUb := ups_ok ht hb
  have hla := hUa.len
  have hlb := hUb.len
  have hpos := hUa.pos
  have hposb := hUb.pos
  have hata := fun k => rp_at t a k
  have hatb := fun k => rp_at t b k
  have hpl : (upsI t a).reverse.length = (ups t a).length := by rw [List.length_reverse, upsI_len]
  have hql : (upsI t b).reverse.length = (ups t b).length := by rw [List.length_reverse, upsI_len]
  have hra := rpath_len t a
  have hrb := rpath_len t b
  have hz := rp_zero ht ha
  have hzb := rp_zero ht hb
  have hL := rp_last ht ha
  have hLb := rp_last ht hb
  refine ⟨by omega, by omega, ?_⟩
  refine CallX.mk (Path_ok t a hs) rfl ?_
  simp only [hpa, hca, nums, rowsS, nodes, zv, nv, bv, sv, VZ, BEq.rfl, seval, -Int.reduceNatCast', kAgg, scD, List.all_cons, List.all_nil]
  refine CallX.mk (Path_ok t b hs) rfl ?_
  simp only [hpb, hcb, nums, rowsS, nodes, zv, nv, bv, sv, VZ, BEq.rfl, seval, -Int.reduceNatCast', kAgg, scD, List.all_cons, List.all_nil]
  refine CallX.mk (Depth_ok t a hs) rfl ?_
  simp only [hda, hca, nums, rowsS, nodes, zv, nv, bv, sv, VZ, BEq.rfl, seval, -Int.reduceNatCast', kAgg, scD, List.all_cons, List.all_nil]
  refine CallX.mk (Common_ok t a b hs) rfl ?_
  simp only [hab, chk_ok2 ht ha hb, nums, rowsS, nodes, zv, nv, bv, sv, VZ, BEq.rfl, seval, -Int.reduceNatCast', kAgg, scD, List.all_cons, List.all_nil]
  refine CallX.mk (Common_ok t b a hs) rfl ?_
  simp only [hba, chk_ok2 ht hb ha, nums, rowsS, nodes, zv, nv, bv, sv, VZ, BEq.rfl, seval, -Int.reduceNatCast', kAgg, scD, List.all_cons, List.all_nil]
  refine CallX.mk (Common_ok t a a hs) rfl ?_
  obtain ⟨p, hp⟩ : ∃ p, (upsI t a).reverse = p := ⟨_, rfl⟩
  obtain ⟨q, hq⟩ : ∃ q, (upsI t b).reverse = q := ⟨_, rfl⟩
  rw [hp] at hpl
  rw [hq] at hql
  simp only [hp] at hata
  simp only [hq] at hatb
  obtain ⟨m, hm⟩ : ∃ m, (ups t a).length = m + 1 := ⟨(ups t a).length - 1, by omega⟩
  obtain ⟨n, hnn⟩ : ∃ n, (ups t b).length = n + 1 := ⟨(ups t b).length - 1, by omega⟩
  rw [hm] at hpl hL hra
  rw [hnn] at hql hLb hrb
  rw [Nat.add_sub_cancel] at hL hLb
  have z0 : (((0 : Nat) : Int) != 0) = false := rfl
  have em : (((m + 1 : Nat) : Int)) - 1 = (m : Int) := by omega
  have en : IntKind.i64.wrap (((n + 1 : Nat) : Int) - 1) = (n : Int) := by rw [wrap_in (by omega) (by omega)]; omega
  have el1 : decide (((n + 1 : Nat) : Int) < 1) = false := decide_eq_false (by omega)
  have eself : ∀ z : Int, (z != z) = false := fun z => by simp
  have g1 := getD_num p 0 (by omega)
  have g2 := getD_num p m (by omega)
  have g3 := getD_num q 0 (by omega)
  have g4 := getD_num q n (by omega)
  rw [hata, hz] at g1
  rw [hata, hL] at g2
  rw [hatb, hzb] at g3
  rw [hatb, hLb] at g4
  have i0 : (0 : Int).toNat = 0 := rfl
  simp only [List.append_eq, haa, chk_ok2 ht ha ha, hp, hq, hpl, hql, hm, hnn, em, en, el1, eself, wrap_nat (k := m) (by omega), g1, g2, g3, g4, z0, num_def, nums, rowsS, nodes, zv, nv, bv, sv, VZ, BEq.rfl, seval, -Int.reduceNatCast', kAgg, scD, List.all_cons, List.all_nil]
  refine ⟨by omega, ⟨by omega, by omega⟩, by omega, ⟨by omega, by omega⟩, ?_⟩
  have hstep := fun k h => rp_step ht ha (k := k) h
  refine LoopVC.mk (Y := Nat) (fun k => k ≤ m) (fun k => ⟨[(0, .c (nodes t)), (9, .c (nums p)), (11, .c (nums q)), (15, nv (com t a b)), (21, nv (k + 1))], []⟩) (fun k => m - k) ⟨0, Enter.id ?_, by omega⟩ ?_
  · simp only [nums, rowsS, nodes, zv, nv, bv, sv, VZ, BEq.rfl, seval, -Int.reduceNatCast', kAgg, scD, List.all_cons, List.all_nil]
    try rfl
  intro k hk
  have elt : decide (((k + 1 : Nat) : Int) < ((m + 1 : Nat) : Int)) = decide (k < m) := by congr 1; exact propext ⟨fun h => by omega, fun h => by omega⟩
  simp only [hpl, elt, nums, rowsS, nodes, zv, nv, bv, sv, VZ, BEq.rfl, seval, -Int.reduceNatCast', kAgg, scD, List.all_cons, List.all_nil]
  refine guardB.mk (fun h => ?_) (fun h => ?_)
  · have hk' : k < m := by simpa using h
    obtain ⟨s1, s2, s3⟩ := hstep k (by omega)
    have g5 := getD_num p (k + 1) (by omega)
    have g6 := getD_num p k (by omega)
    rw [hata] at g5 g6
    obtain ⟨u, hu⟩ : ∃ u, (rpath t a).getD (k + 1) 0 = u := ⟨_, rfl⟩
    obtain ⟨w, hw⟩ : ∃ w, (rpath t a).getD k 0 = w := ⟨_, rfl⟩
    rw [hu] at s1 s2 s3 g5
    rw [hw] at s3 g6
    have s3 : (t.getD u Node.zero).parent = (w : Int) := s3
    have d1 : decide ((u : Int) ≤ 0) = false := decide_eq_false (by omega)
    have d2 : decide ((t.length : Int) ≤ (u : Int)) = false := decide_eq_false (by omega)
    have w1 : IntKind.i64.wrap (((k + 1 : Nat) : Int) - 1) = (k : Int) := by rw [wrap_in (by omega) (by omega)]; omega
    simp only [h, hpl, g5, g6, num_def, d1, d2, w1, getD_node t u s2, node_def, s3, eself, wrap_nat (k := k + 1) (by omega), nums, rowsS, nodes, zv, nv, bv, sv, VZ, BEq.rfl, seval, -Int.reduceNatCast', kAgg, scD, List.all_cons, List.all_nil]
    refine ⟨⟨Int.natCast_nonneg _, by omega⟩, ⟨Int.natCast_nonneg _, by omega⟩, ⟨Int.natCast_nonneg _, by omega⟩, ⟨Int.natCast_nonneg _, s2⟩, ⟨Int.natCast_nonneg _, by omega⟩, k + 1, Enter.id ?_, by omega, by show m - (k + 1) < m - k; omega⟩
    simp only [nums, rowsS, nodes, zv, nv, bv, sv, VZ, BEq.rfl, seval, -Int.reduceNatCast', kAgg, scD, List.all_cons, List.all_nil]
  clear h elt
  refine LoopVC.mk (Y := Nat) (fun k => k ≤ p.length ∧ k ≤ q.length ∧ ∀ j, j < k → (rpath t a).getD j 0 = (rpath t b).getD j 0) (fun k => ⟨[(9, .c (nums p)), (11, .c (nums q)), (15, nv (com t a b)), (22, nv k)], []⟩) (fun k => p.length - k) ⟨0, Enter.id ?_, by omega, by omega, fun j hj => by omega⟩ ?_
  · simp only [nums, rowsS, nodes, zv, nv, bv, sv, VZ, BEq.rfl, seval, -Int.reduceNatCast', kAgg, scD, List.all_cons, List.all_nil]
    try rfl
  rintro k ⟨hka, hkb, hpre⟩
  have hend := fun h => part_at ht ha hb (k := k) (by omega) (by omega) hpre h
  have hfin : ¬ (k < p.length ∧ k < q.length ∧ (rpath t a).getD k 0 = (rpath t b).getD k 0) → ∃ m : Nat, k = m + 1 ∧ m < p.length ∧ p.getD m 0 = (com t a b : Int) := fun h => by
    obtain ⟨g1, g2⟩ := hend (by rw [hra, hrb, ← hpl, ← hql]; exact h)
    refine ⟨k - 1, by omega, by omega, ?_⟩
    rw [hata, g2]
  simp only [lt_nat, nums, rowsS, nodes, zv, nv, bv, sv, VZ, BEq.rfl, seval, -Int.reduceNatCast', kAgg, scD, List.all_cons, List.all_nil]
  refine guardB.mk (fun h => ?_) (fun h => ?_) <;> simp only [h, nums, rowsS, nodes, zv, nv, bv, sv, VZ, BEq.rfl, seval, -Int.reduceNatCast', kAgg, scD, List.all_cons, List.all_nil]
  · have h1 : k < p.length := by simpa using h
    refine guardB.mk (fun h => ?_) (fun h => ?_) <;> simp only [h, nums, rowsS, nodes, zv, nv, bv, sv, VZ, BEq.rfl, seval, -Int.reduceNatCast', kAgg, scD, List.all_cons, List.all_nil]
    · have h2 : k < q.length := by simpa using h
      simp only [getD_num p k h1, getD_num q k h2, num_def, hata, hatb, int_beq, nums, rowsS, nodes, zv, nv, bv, sv, VZ, BEq.rfl, seval, -Int.reduceNatCast', kAgg, scD, List.all_cons, List.all_nil]
      refine ⟨⟨Int.natCast_nonneg k, h1⟩, ⟨Int.natCast_nonneg k, h2⟩, ?_⟩
      refine guardB.mk (fun h => ?_) (fun h => ?_) <;> simp only [h, nums, rowsS, nodes, zv, nv, bv, sv, VZ, BEq.rfl, seval, -Int.reduceNatCast', kAgg, scD, List.all_cons, List.all_nil]
      · have h3 : (rpath t a).getD k 0 = (rpath t b).getD k 0 := by
          have : (((rpath t a).getD k 0 : Nat) : Int) = (((rpath t b).getD k 0 : Nat) : Int) := by simpa using h
          omega
        simp only [wrap_nat (k := k) (by omega), nums, rowsS, nodes, zv, nv, bv, sv, VZ, BEq.rfl, seval, -Int.reduceNatCast', kAgg, scD, List.all_cons, List.all_nil]
        refine ⟨k + 1, Enter.id ?_, ⟨by omega, by omega, fun j hj => ?_⟩, by show p.length - (k + 1) < p.length - k; omega⟩
        · simp only [nums, rowsS, nodes, zv, nv, bv, sv, VZ, BEq.rfl, seval, -Int.reduceNatCast', kAgg, scD, List.all_cons, List.all_nil]
        · by_cases e : j = k
          · rw [e]; exact h3
          · exact hpre j (by omega)
      · have h3 : ¬ (rpath t a).getD k 0 = (rpath t b).getD k 0 := fun e => by
          have : ¬ (((rpath t a).getD k 0 : Nat) : Int) = (((rpath t b).getD k 0 : Nat) : Int) := by simpa using h
          exact this (by rw [e])
        have HX : ¬ (k < p.length ∧ k < q.length ∧ (rpath t a).getD k 0 = (rpath t b).getD k 0) := fun hh => h3 hh.2.2
        obtain ⟨m, rfl, hm, hxm⟩ := hfin HX
        have w1 : IntKind.i64.wrap (((m + 1 : Nat) : Int) - 1) = (m : Int) := by rw [wrap_in (by omega) (by omega)]; omega
        simp only [w1, getD_num p m hm, hxm, num_def, nums, rowsS, nodes, zv, nv, bv, sv, VZ, BEq.rfl, seval, -Int.reduceNatCast', kAgg, scD, List.all_cons, List.all_nil]
        refine ⟨⟨Int.natCast_nonneg m, hm⟩, ?_⟩
        refine CallX.mk works_ok rfl ?_
        simp only [nums, rowsS, nodes, zv, nv, bv, sv, VZ, BEq.rfl, seval, -Int.reduceNatCast', kAgg, scD, List.all_cons, List.all_nil]
    · have h2 : ¬ k < q.length := by simpa using h
      have HX : ¬ (k < p.length ∧ k < q.length ∧ (rpath t a).getD k 0 = (rpath t b).getD k 0) := fun hh => h2 hh.2.1
      obtain ⟨m, rfl, hm, hxm⟩ := hfin HX
      have w1 : IntKind.i64.wrap (((m + 1 : Nat) : Int) - 1) = (m : Int) := by rw [wrap_in (by omega) (by omega)]; omega
      simp only [w1, getD_num p m hm, hxm, num_def, nums, rowsS, nodes, zv, nv, bv, sv, VZ, BEq.rfl, seval, -Int.reduceNatCast', kAgg, scD, List.all_cons, List.all_nil]
      refine ⟨⟨Int.natCast_nonneg m, hm⟩, ?_⟩
      refine CallX.mk works_ok rfl ?_
      simp only [nums, rowsS, nodes, zv, nv, bv, sv, VZ, BEq.rfl, seval, -Int.reduceNatCast', kAgg, scD, List.all_cons, List.all_nil]
  · have h1 : ¬ k < p.length := by simpa using h
    have HX : ¬ (k < p.length ∧ k < q.length ∧ (rpath t a).getD k 0 = (rpath t b).getD k 0) := fun hh => h1 hh.1
    obtain ⟨m, rfl, hm, hxm⟩ := hfin HX
    have w1 : IntKind.i64.wrap (((m + 1 : Nat) : Int) - 1) = (m : Int) := by rw [wrap_in (by omega) (by omega)]; omega
    simp only [w1, getD_num p m hm, hxm, num_def, nums, rowsS, nodes, zv, nv, bv, sv, VZ, BEq.rfl, seval, -Int.reduceNatCast', kAgg, scD, List.all_cons, List.all_nil]
    refine ⟨⟨Int.natCast_nonneg m, hm⟩, ?_⟩
    refine CallX.mk works_ok rfl ?_
    simp only [nums, rowsS, nodes, zv, nv, bv, sv, VZ, BEq.rfl, seval, -Int.reduceNatCast', kAgg, scD, List.all_cons, List.all_nil]

end Go.Cp
namespace Go.Proofs.Ytiioldgdgfdjeaa
open Go Go.Proofs Go.RowKit Go.ChangeShapes Go.WideShapes Go.ChangeAt Go.Vx Go.Cp

theorem treeWays_lifted (os : Os) (started : os.Started) (H : Type) (enc : TypeId × Value → H) :
    ReturnsInHanded {} Try.checked os 8 .any (Rows.treeWaysSpec.pre6 enc Try.prog Try.f8 Rows.treeWaysRow.domain false) (Rows.treeWaysSpec.post enc Try.prog Try.f8 false true false false) := by
  refine law_lifted (m := 8) (tb := 4) os started H enc own laid (by kernel_rfl) Try.func8 rfl Try.underlying4 rfl ?_ (by kernel_rfl) (by kernel_rfl)
    (ChangeSpec.witness6 (enc := enc) (C := Try.checked) false ⟨#[], #[.slice none 0 0, .int .u8 0, .int .u8 0], []⟩ 8 (by kernel_rfl) (by kernel_rfl) (by kernel_rfl) (by kernel_rfl)) ?_
  · rw [Try.params8]
    intro ds hd
    match ds, hd with
    | [d1, d2, d3], _ => exact ⟨rfl, rfl, rfl⟩
  · rw [Try.params8]
    intro dss h
    obtain ⟨x1, x2, x3, rfl, h1, h2, h3⟩ := typedL3 h
    obtain ⟨t, rfl, hs, hl⟩ := typed_nodes (m := 5) h1
    obtain ⟨x, rfl, hx⟩ := typed_byte (m := 7) h2
    obtain ⟨y, rfl, hy⟩ := typed_byte (m := 7) h3
    simp only [argsAV, argAV, Try.underlying22, Try.underlying5]
    exact ways_law t x y hs hx hy

theorem treeWays_holds : Rows.TreeWaysSaid :=
  OpenClaim.holds_of_wide 8 Try.f8 rfl rfl rfl rfl rfl rfl rfl ⟨rfl, rfl, rfl, rfl, rfl⟩ rfl rfl rfl rfl rfl (by kernel_rfl) Try.func8 (by kernel_rfl)
    (of_decide_eq_true (by kernel_rfl)) (by unfold Func.isWrapper; first | (rw [if_pos (by decide +kernel)]; kernel_rfl) | (rw [if_neg (by decide +kernel)]; exact ⟨rfl, rfl⟩))
    (fun os started H enc _ => treeWays_lifted os started H enc)
#print axioms treeWays_holds

end Go.Proofs.Ytiioldgdgfdjeaa
