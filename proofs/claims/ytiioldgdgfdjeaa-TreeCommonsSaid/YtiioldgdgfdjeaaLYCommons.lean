/-
  Tree: the law TreeCommons. Conditions: none.
-/
import Derived.Test.YtiioldgdgfdjeaaMM
set_option linter.unusedVariables false
set_option linter.unusedSimpArgs false
set_option maxHeartbeats 8000000
set_option maxRecDepth 10000
namespace Go.Cp
open Go Go.Proofs Go.Vx

theorem com_assoc {t : List Node} (ht : okTree t = true) {a b c : Nat} (ha : a < t.length) (hb : b < t.length) (hc : c < t.length) : com t (com t a b) c = com t a (com t b c) := by
  have hab := com_lt ht ha hb
  have hbc := com_lt ht hb hc
  have m1 := com_mem ht hab hc
  have m2 := com_mem ht ha hbc
  have mab := com_mem ht ha hb
  have mbc := com_mem ht hb hc
  have p1 := ups_trans ht ha mab.1 m1.1
  have p2 := ups_trans ht hb mab.2 m1.1
  have q2 := ups_trans ht hb mbc.1 m2.2
  have q3 := ups_trans ht hc mbc.2 m2.2
  have g1 := com_max ht ha hbc p1 (com_max ht hb hc p2 m1.2)
  have g2 := com_max ht hab hc (com_max ht ha hb m2.1 q2) q3
  have h1 := ups_le' ht (com_lt ht ha hbc) g1
  have h2 := ups_le' ht (com_lt ht hab hc) g2
  omega
theorem both_iff {t : List Node} {v i j : Nat} (hi : i < (leavesOf t).length) (hj : j < (leavesOf t).length) : clade t v &&& (2 ^ i ||| 2 ^ j) = 2 ^ i ||| 2 ^ j ↔ v ∈ ups t (leafN t i) ∧ v ∈ ups t (leafN t j) := by
  constructor
  · intro h
    have hb : ∀ k, (2 ^ i ||| 2 ^ j).testBit k = true → (clade t v).testBit k = true := fun k hk => by
      rw [← h, Nat.testBit_and, Bool.and_eq_true] at hk
      exact hk.1
    have h1 := hb i (by rw [Nat.testBit_or, Nat.testBit_two_pow_self]; rfl)
    have h2 := hb j (by rw [Nat.testBit_or, Nat.testBit_two_pow_self, Bool.or_true])
    rw [clade_bit, Bool.and_eq_true, decide_eq_true_eq, decide_eq_true_eq] at h1 h2
    exact ⟨h1.2, h2.2⟩
  · rintro ⟨h1, h2⟩
    apply Nat.eq_of_testBit_eq
    intro k
    rw [Nat.testBit_and, Nat.testBit_or, Nat.testBit_two_pow, Nat.testBit_two_pow, clade_bit]
    by_cases e1 : i = k
    · subst e1; simp [hi, h1]
    · by_cases e2 : j = k
      · subst e2; simp [hj, h2]
      · simp [e1, e2]
theorem clade_sub {t : List Node} (ht : okTree t = true) {v a : Nat} (ha : v ∈ ups t a) (k : Nat) (h : (clade t a).testBit k = true) : (clade t v).testBit k = true := by
  rw [clade_bit, Bool.and_eq_true, decide_eq_true_eq, decide_eq_true_eq] at h ⊢
  exact ⟨h.1, ups_trans ht (leafN_at h.1).1 h.2 ha⟩

theorem commons_law (t : List Node) (x y z : Nat) (hs : Small t) (hx : x < 256) (hy : y < 256) (hz : z < 256) : Ok Try.prog E 6 [.c (nodes t), .c (.sc (.int .u8 x)), .c (.sc (.int .u8 y)), .c (.sc (.int .u8 z))] (bv true) := by
  refine ok_of_vc (L := [(16, [(13, 16), (13, 17)])]) (ts := [8]) envOK mixed Try.func6 rfl (by kernel_rfl) rfl (by kernel_rfl) rfl fun hl => ?_
  simp only [Try.f6, nums, bitsS, rowsS, nodes, zv, nv, bv, sv, VZ, BEq.rfl, seval, -Int.reduceNatCast', kAgg, scD, List.all_cons, List.all_nil]
  refine guardB.mk (fun h => ?_) (fun h => ?_) <;> simp only [h, nums, bitsS, rowsS, nodes, zv, nv, bv, sv, VZ, BEq.rfl, seval, -Int.reduceNatCast', kAgg, scD, List.all_cons, List.all_nil]
  · refine CallX.mk works_ok rfl ?_
    simp only [nums, bitsS, rowsS, nodes, zv, nv, bv, sv, VZ, BEq.rfl, seval, -Int.reduceNatCast', kAgg, scD, List.all_cons, List.all_nil]
  clear h
  refine CallX.mk (check_ok t hs) rfl ?_
  cases ht : okTree t with
  | false =>
    simp only [errOf_false, nums, bitsS, rowsS, nodes, zv, nv, bv, sv, VZ, BEq.rfl, seval, -Int.reduceNatCast', kAgg, scD, List.all_cons, List.all_nil]
    refine CallX.mk works_ok rfl ?_
    simp only [nums, bitsS, rowsS, nodes, zv, nv, bv, sv, VZ, BEq.rfl, seval, -Int.reduceNatCast', kAgg, scD, List.all_cons, List.all_nil]
  | true =>
  obtain ⟨hn, h63⟩ := okTree_len ht
  simp only [errOf_true, nums, bitsS, rowsS, nodes, zv, nv, bv, sv, VZ, BEq.rfl, seval, -Int.reduceNatCast', kAgg, scD, List.all_cons, List.all_nil]
  refine CallX.mk (Leaves_ok t hs) rfl ?_
  have hlR := leavesR_true ht
  have hll := leaves_len t
  have hlp := leaves_pos ht
  simp only [hlR, ht, errOf_true, nums, bitsS, rowsS, nodes, zv, nv, bv, sv, VZ, BEq.rfl, seval, -Int.reduceNatCast', kAgg, scD, List.all_cons, List.all_nil]
  refine CallX.mk (clades_ok t ht hs) rfl ?_
  simp only [nums, bitsS, rowsS, nodes, zv, nv, bv, sv, VZ, BEq.rfl, seval, -Int.reduceNatCast', kAgg, scD, List.all_cons, List.all_nil]
  have hlat := fun k h => (leafN_at (t := t) (i := k) h).2.2
  have hlt := fun k h => (leafN_at (t := t) (i := k) h).1
  have hbi := fun v i j h1 h2 => both_iff (t := t) (v := v) (i := i) (j := j) h1 h2
  have hcl := fun v => clade_lt t v
  have hpw := fun k (h : k < (leavesOf t).length) => (Nat.pow_lt_pow_right (by decide) h : 2 ^ k < 2 ^ (leavesOf t).length)
  obtain ⟨C, hC⟩ : ∃ C, (cladesTo t t.length).map u64D = C := ⟨_, rfl⟩
  have hCl : C.length = t.length := by rw [← hC, List.length_map, cladesTo_len]
  have hCat : ∀ v, v < t.length → C.getD v [] = u64D (clade t v) := fun v h => by rw [← hC]; exact cladesTo_at h
  obtain ⟨l, hl0⟩ : ∃ l, leavesOf t = l := ⟨_, rfl⟩
  simp only [hl0] at hll hlp hlat hlt hbi hcl hpw
  have hlt64 : ∀ {x : Nat}, x < 2 ^ l.length → x < 2 ^ 64 := fun h => Nat.lt_trans h (pow_lt64 (by omega))
  have ea : ∀ x : Nat, x < 256 → (IntKind.i64.wrap (x : Int)).tmod (l.length : Int) = ((x % l.length : Nat) : Int) := fun x hx => by rw [wrap_of (Int.natCast_nonneg _) (by omega)]; exact (Int.ofNat_tmod _ _).symm
  have hi := Nat.mod_lt x hlp
  have hj := Nat.mod_lt y hlp
  have hk := Nat.mod_lt z hlp
  have hne : ((l.length : Int) == 0) = false := beq_eq_false_iff_ne.2 (by omega)
  simp only [hC, hl0, hne, ea x hx, ea y hy, ea z hz, nums, bitsS, rowsS, nodes, zv, nv, bv, sv, VZ, BEq.rfl, seval, -Int.reduceNatCast', kAgg, scD, List.all_cons, List.all_nil]
  clear ea
  generalize x % l.length = i at hi ⊢
  generalize y % l.length = j at hj ⊢
  generalize z % l.length = k at hk ⊢
  have hA := hlt i hi
  have hB := hlt j hj
  have hZ := hlt k hk
  have hAe := hlat i hi
  have hBe := hlat j hj
  have hZe := hlat k hk
  have hbi := fun v => hbi v i j hi hj
  generalize leafN t i = A at hA hAe hbi
  generalize leafN t j = B at hB hBe hbi
  generalize leafN t k = Z at hZ hZe
  have hab := com_lt ht hA hB
  have hbc := com_lt ht hB hZ
  have hmab := com_mem ht hA hB
  have hmax := fun v h1 h2 => com_max ht hA hB (c := v) h1 h2
  have hass := com_assoc ht hA hB hZ
  have v1 : comV t (A : Int) (B : Int) = (com t A B : Int) := by rw [comV, if_pos (chkN2 ht hA hB)]; rfl
  have v2 : comV t (B : Int) (Z : Int) = (com t B Z : Int) := by rw [comV, if_pos (chkN2 ht hB hZ)]; rfl
  have v3 : comV t (com t A B : Int) (Z : Int) = (com t (com t A B) Z : Int) := by rw [comV, if_pos (chkN2 ht hab hZ)]; rfl
  have v4 : comV t (A : Int) (com t B Z : Int) = (com t (com t A B) Z : Int) := by rw [comV, if_pos (chkN2 ht hA hbc), hass]; rfl
  have c1 := chkN2 ht hA hB
  have c2 := chkN2 ht hB hZ
  have c3 := chkN2 ht hab hZ
  have c4 := chkN2 ht hA hbc
  have hca := hbi (com t A B)
  have hle := fun v h => ups_le' ht hab (c := v) h
  have hsub := fun v h => clade_sub ht (v := v) (a := com t A B) h
  generalize hea : com t A B = a at hab hmab hmax v1 v3 v4 c3 hca hle hsub
  generalize heb : com t B Z = b at hbc v2 v4 c4
  have hca := hca.2 hmab
  obtain ⟨W, hW⟩ : ∃ W, 2 ^ i ||| 2 ^ j = W := ⟨_, rfl⟩
  have hWlt : W < 2 ^ l.length := by rw [← hW]; exact Nat.or_lt_two_pow (hpw i hi) (hpw j hj)
  have hor := or_u64 (hlt64 (hpw i hi)) (hlt64 (hpw j hj))
  rw [hW] at hor hca hbi
  have hand := fun v => and_u64 (hlt64 (hcl v)) (hlt64 hWlt)
  have hCa := hCat a hab
  have eself : ∀ z : Int, (z != z) = false := fun z => by simp
  have n1 : decide ((a : Int) < 0) = false := decide_eq_false (by omega)
  have n2 : decide ((t.length : Int) ≤ (a : Int)) = false := decide_eq_false (by omega)
  have n3 : decide ((b : Int) < 0) = false := decide_eq_false (by omega)
  have n4 : decide ((t.length : Int) ≤ (b : Int)) = false := decide_eq_false (by omega)
  refine ⟨by omega, by omega, by omega, ?_⟩
  simp only [getD_num l i hi, getD_num l j hj, getD_num l k hk, hAe, hBe, hZe, num_def, nums, bitsS, rowsS, nodes, zv, nv, bv, sv, VZ, BEq.rfl, seval, -Int.reduceNatCast', kAgg, scD, List.all_cons, List.all_nil]
  refine ⟨⟨Int.natCast_nonneg i, hi⟩, ⟨Int.natCast_nonneg j, hj⟩, ?_⟩
  refine CallX.mk (Common_ok t A B hs) rfl ?_
  simp only [v1, c1, getD_num l i hi, getD_num l j hj, getD_num l k hk, hAe, hBe, hZe, num_def, nums, bitsS, rowsS, nodes, zv, nv, bv, sv, VZ, BEq.rfl, seval, -Int.reduceNatCast', kAgg, scD, List.all_cons, List.all_nil]
  refine ⟨⟨Int.natCast_nonneg j, hj⟩, ⟨Int.natCast_nonneg k, hk⟩, ?_⟩
  refine CallX.mk (Common_ok t B Z hs) rfl ?_
  simp only [v2, c2, n1, n2, n3, n4, shl_one (k := i) (by omega), shl_one (k := j) (by omega), hor, nums, bitsS, rowsS, nodes, zv, nv, bv, sv, VZ, BEq.rfl, seval, -Int.reduceNatCast', kAgg, scD, List.all_cons, List.all_nil]
  refine ⟨Int.natCast_nonneg i, Int.natCast_nonneg j, ?_⟩
  refine LoopVC.mk (Y := Nat) (fun v => v ≤ t.length) (fun v => ⟨[(0, .c (nodes t)), (9, .c (nums l)), (11, .c (.sl C)), (13, nv i), (15, nv k), (16, nv a), (18, nv b), (20, bitsU W), (21, nv v)], []⟩) (fun v => t.length - v) ⟨0, Enter.id ?_, by omega⟩ ?_
  · simp only [bitsU, nums, bitsS, rowsS, nodes, zv, nv, bv, sv, VZ, BEq.rfl, seval, -Int.reduceNatCast', kAgg, scD, List.all_cons, List.all_nil]
    try rfl
  intro v hv
  simp only [lt_nat, bitsU, nums, bitsS, rowsS, nodes, zv, nv, bv, sv, VZ, BEq.rfl, seval, -Int.reduceNatCast', kAgg, scD, List.all_cons, List.all_nil]
  refine guardB.mk (fun h => ?_) (fun h => ?_)
  · have hv' : v < t.length := by simpa using h
    clear h
    have hCv := hCat v hv'
    have hnv := hand v
    by_cases hw : clade t v &&& W = W
    · have hup := (hbi v).1 hw
      have hva := hmax v hup.1 hup.2
      have hva2 := hle v hva
      have hones : onesN (clade t a) ≤ onesN (clade t v) := cntB_mono (fun k h => hsub v hva k h) 64
      rw [hw] at hnv
      have q1 : decide ((onesN (clade t v) : Int) < (onesN (clade t a) : Int)) = false := decide_eq_false (by omega)
      have q2 : decide ((a : Int) < (v : Int)) = false := decide_eq_false (by omega)
      simp only [hCl, hCv, hCa, u64D_def, hnv, beq_self_eq_true, nums, bitsS, rowsS, nodes, zv, nv, bv, sv, VZ, BEq.rfl, seval, -Int.reduceNatCast', kAgg, scD, List.all_cons, List.all_nil]
      refine ⟨⟨Int.natCast_nonneg v, hv'⟩, ⟨Int.natCast_nonneg v, hv'⟩, ?_⟩
      refine CallX.mk (ones_ok _ (hlt64 (hcl v))) rfl ?_
      simp only [hCl, hCv, hCa, u64D_def, nums, bitsS, rowsS, nodes, zv, nv, bv, sv, VZ, BEq.rfl, seval, -Int.reduceNatCast', kAgg, scD, List.all_cons, List.all_nil]
      refine ⟨⟨Int.natCast_nonneg a, hab⟩, ?_⟩
      refine CallX.mk (ones_ok _ (hlt64 (hcl a))) rfl ?_
      cases hE : (((clade t v : Nat) : Int) == ((clade t a : Nat) : Int)) <;> simp only [hE, hCl, hCv, hCa, u64D_def, q1, q2, wrap_nat (k := v) (by omega), nums, bitsS, rowsS, nodes, zv, nv, bv, sv, VZ, BEq.rfl, seval, -Int.reduceNatCast', kAgg, scD, List.all_cons, List.all_nil]
      · refine ⟨⟨Int.natCast_nonneg v, hv'⟩, ⟨Int.natCast_nonneg a, hab⟩, v + 1, Enter.id ?_, by omega, by show t.length - (v + 1) < t.length - v; omega⟩
        simp only [nums, bitsS, rowsS, nodes, zv, nv, bv, sv, VZ, BEq.rfl, seval, -Int.reduceNatCast', kAgg, scD, List.all_cons, List.all_nil]
      · refine ⟨⟨Int.natCast_nonneg v, hv'⟩, ⟨Int.natCast_nonneg a, hab⟩, v + 1, Enter.id ?_, by omega, by show t.length - (v + 1) < t.length - v; omega⟩
        simp only [nums, bitsS, rowsS, nodes, zv, nv, bv, sv, VZ, BEq.rfl, seval, -Int.reduceNatCast', kAgg, scD, List.all_cons, List.all_nil]
    · have q1 : (((clade t v &&& W : Nat) : Int) == (W : Int)) = false := beq_eq_false_iff_ne.2 (by omega)
      simp only [hCl, hCv, hCa, u64D_def, hnv, q1, wrap_nat (k := v) (by omega), nums, bitsS, rowsS, nodes, zv, nv, bv, sv, VZ, BEq.rfl, seval, -Int.reduceNatCast', kAgg, scD, List.all_cons, List.all_nil]
      refine ⟨⟨Int.natCast_nonneg v, hv'⟩, v + 1, Enter.id ?_, by omega, by show t.length - (v + 1) < t.length - v; omega⟩
      simp only [nums, bitsS, rowsS, nodes, zv, nv, bv, sv, VZ, BEq.rfl, seval, -Int.reduceNatCast', kAgg, scD, List.all_cons, List.all_nil]
  · have hv' : v = t.length := by
      have : ¬ v < t.length := by simpa using h
      omega
    subst hv'
    clear h
    simp only [getD_num l i hi, getD_num l j hj, getD_num l k hk, hAe, hBe, hZe, num_def, nums, bitsS, rowsS, nodes, zv, nv, bv, sv, VZ, BEq.rfl, seval, -Int.reduceNatCast', kAgg, scD, List.all_cons, List.all_nil]
    refine ⟨⟨Int.natCast_nonneg k, hk⟩, ?_⟩
    refine CallX.mk (Common_ok t a Z hs) rfl ?_
    simp only [v3, c3, getD_num l i hi, getD_num l j hj, getD_num l k hk, hAe, hBe, hZe, num_def, nums, bitsS, rowsS, nodes, zv, nv, bv, sv, VZ, BEq.rfl, seval, -Int.reduceNatCast', kAgg, scD, List.all_cons, List.all_nil]
    refine ⟨⟨Int.natCast_nonneg i, hi⟩, ?_⟩
    refine CallX.mk (Common_ok t A b hs) rfl ?_
    have hna := hand a
    rw [hca] at hna
    have z00 : ((0 : Int) == 0) = true := rfl
    simp only [v4, c4, hCl, hCa, u64D_def, hna, z00, beq_self_eq_true, nums, bitsS, rowsS, nodes, zv, nv, bv, sv, VZ, BEq.rfl, seval, -Int.reduceNatCast', kAgg, scD, List.all_cons, List.all_nil]
    refine ⟨⟨Int.natCast_nonneg a, hab⟩, ?_⟩
    refine CallX.mk works_ok rfl ?_
    simp only [nums, bitsS, rowsS, nodes, zv, nv, bv, sv, VZ, BEq.rfl, seval, -Int.reduceNatCast', kAgg, scD, List.all_cons, List.all_nil]

end Go.Cp
namespace Go.Proofs.Ytiioldgdgfdjeaa
open Go Go.Proofs Go.RowKit Go.ChangeShapes Go.WideShapes Go.ChangeAt Go.Vx Go.Cp

theorem treeCommons_lifted (os : Os) (started : os.Started) (H : Type) (enc : TypeId × Value → H) :
    ReturnsInHanded {} Try.checked os 6 .any (Rows.treeCommonsSpec.pre6 enc Try.prog Try.f6 Rows.treeCommonsRow.domain false) (Rows.treeCommonsSpec.post enc Try.prog Try.f6 false true false false) := by
  refine law_lifted (m := 8) (tb := 4) os started H enc own laid (by kernel_rfl) Try.func6 rfl Try.underlying4 rfl ?_ (by kernel_rfl) (by kernel_rfl)
    (ChangeSpec.witness6 (enc := enc) (C := Try.checked) false ⟨#[], #[.slice none 0 0, .int .u8 0, .int .u8 0, .int .u8 0], []⟩ 8 (by kernel_rfl) (by kernel_rfl) (by kernel_rfl) (by kernel_rfl)) ?_
  · rw [Try.params6]
    intro ds hd
    match ds, hd with
    | [d1, d2, d3, d4], _ => exact ⟨rfl, rfl, rfl⟩
  · rw [Try.params6]
    intro dss h
    obtain ⟨x1, x2, x3, x4, rfl, h1, h2, h3, h4⟩ := typedL4 h
    obtain ⟨t, rfl, hs, hl⟩ := typed_nodes (m := 5) h1
    obtain ⟨x, rfl, hx⟩ := typed_byte (m := 7) h2
    obtain ⟨y, rfl, hy⟩ := typed_byte (m := 7) h3
    obtain ⟨z, rfl, hz⟩ := typed_byte (m := 7) h4
    simp only [argsAV, argAV, Try.underlying22, Try.underlying5]
    exact commons_law t x y z hs hx hy hz

theorem treeCommons_holds : Rows.TreeCommonsSaid :=
  OpenClaim.holds_of_wide 6 Try.f6 rfl rfl rfl rfl rfl rfl rfl ⟨rfl, rfl, rfl, rfl, rfl⟩ rfl rfl rfl rfl rfl (by kernel_rfl) Try.func6 (by kernel_rfl)
    (of_decide_eq_true (by kernel_rfl)) (by unfold Func.isWrapper; first | (rw [if_pos (by decide +kernel)]; kernel_rfl) | (rw [if_neg (by decide +kernel)]; exact ⟨rfl, rfl⟩))
    (fun os started H enc _ => treeCommons_lifted os started H enc)
#print axioms treeCommons_holds

end Go.Proofs.Ytiioldgdgfdjeaa
