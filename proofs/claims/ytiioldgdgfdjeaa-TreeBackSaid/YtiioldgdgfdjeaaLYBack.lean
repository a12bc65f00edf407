/-
  Tree: the law TreeBack. Conditions: none.
-/
import Derived.Test.YtiioldgdgfdjeaaMR
set_option linter.unusedVariables false
set_option linter.unusedSimpArgs false
set_option maxHeartbeats 16000000
set_option maxRecDepth 10000
namespace Go.Cp
open Go Go.Proofs Go.Vx

theorem small_tree {t : List Node} (ht : okTree t = true) : Small t := fun k hk => by
  have h := (named_size ht hk).2
  show (nameOf t k).size ≤ _
  omega
theorem back_law (t : List Node) (s : ByteArray) (hs : Small t) : Ok Try.prog E 11 [.c (nodes t), sv s] (bv true) := by
  refine ok_of_vc (L := []) (ts := [4]) envOK mixed Try.func11 rfl (by kernel_rfl) rfl (by kernel_rfl) rfl fun hl => ?_
  simp only [Try.f11, nums, rowsS, nodes, zv, nv, bv, sv, VZ, BEq.rfl, seval, -Int.reduceNatCast', kAgg, scD, List.all_cons, List.all_nil]
  refine guardB.mk (fun h => ?_) (fun h => ?_) <;> simp only [h, nums, rowsS, nodes, zv, nv, bv, sv, VZ, BEq.rfl, seval, -Int.reduceNatCast', kAgg, scD, List.all_cons, List.all_nil]
  · refine CallX.mk works_ok rfl ?_
    simp only [nums, rowsS, nodes, zv, nv, bv, sv, VZ, BEq.rfl, seval, -Int.reduceNatCast', kAgg, scD, List.all_cons, List.all_nil]
  clear h
  refine guardB.mk (fun h => ?_) (fun h => ?_) <;> simp only [h, nums, rowsS, nodes, zv, nv, bv, sv, VZ, BEq.rfl, seval, -Int.reduceNatCast', kAgg, scD, List.all_cons, List.all_nil]
  · refine CallX.mk works_ok rfl ?_
    simp only [nums, rowsS, nodes, zv, nv, bv, sv, VZ, BEq.rfl, seval, -Int.reduceNatCast', kAgg, scD, List.all_cons, List.all_nil]
  have hsz : s.size ≤ 2000 := by
    have : ¬ (2000 : Int) < (s.size : Int) := by simpa using h
    omega
  clear h
  refine CallX.mk (Text_ok t hs) rfl ?_
  have eself : ∀ z : Int, (z != z) = false := fun z => by simp
  cases ht : okTree t with
  | false =>
    have e0 : textV t = ⟨#[]⟩ := by rw [textV, ht]; rfl
    simp only [e0, errOf_false, beq_self_eq_true, nums, rowsS, nodes, zv, nv, bv, sv, VZ, BEq.rfl, seval, -Int.reduceNatCast', kAgg, scD, List.all_cons, List.all_nil]
    refine CallX.mk (Parse_ok s) rfl ?_
    cases hp : parseR s with
    | none =>
      have ev : parseV s = [] := by rw [parseV, if_pos (by omega), hp]; rfl
      have ee : parseE s = 10 := by rw [parseE, if_pos (by omega), hp]; rfl
      have z00 : (((0 : Nat) : Int) == 0) = true := rfl
      simp only [ev, ee, List.map_nil, List.length_nil, z00, nums, rowsS, nodes, zv, nv, bv, sv, VZ, BEq.rfl, seval, -Int.reduceNatCast', kAgg, scD, List.all_cons, List.all_nil]
      refine CallX.mk works_ok rfl ?_
      simp only [nums, rowsS, nodes, zv, nv, bv, sv, VZ, BEq.rfl, seval, -Int.reduceNatCast', kAgg, scD, List.all_cons, List.all_nil]
    | some u2 =>
      have ev : parseV s = u2 := by rw [parseV, if_pos (by omega), hp]; rfl
      have ee : parseE s = 0 := by rw [parseE, if_pos (by omega), hp]; rfl
      have hu2 := (parse_tree (by omega) hp).1
      have htx : textV u2 = s := by rw [textV, if_pos hu2]; exact back_text (by omega) hp
      simp only [ev, ee, nums, rowsS, nodes, zv, nv, bv, sv, VZ, BEq.rfl, seval, -Int.reduceNatCast', kAgg, scD, List.all_cons, List.all_nil]
      refine CallX.mk (Text_ok u2 (small_tree hu2)) rfl ?_
      simp only [hu2, htx, errOf_true, beq_self_eq_true, nums, rowsS, nodes, zv, nv, bv, sv, VZ, BEq.rfl, seval, -Int.reduceNatCast', kAgg, scD, List.all_cons, List.all_nil]
      refine CallX.mk works_ok rfl ?_
      simp only [nums, rowsS, nodes, zv, nv, bv, sv, VZ, BEq.rfl, seval, -Int.reduceNatCast', kAgg, scD, List.all_cons, List.all_nil]
  | true =>
  have hn := okTree_len ht
  have hx : textV t = textOf t 0 := if_pos ht
  have hxs := (text_small ht hn.1).2
  have hU := inOrd_ok ht
  have hUl := inOrd_len ht
  have hpr := inOrd_parse ht (inOrd_text ht)
  have hag := inOrd_again ht
  have hat := fun v h => inOrd_at ht (v := v) h
  have hpar := fun i h h0 v hv hnm => inOrd_par ht (i := i) h h0 (v := v) hv hnm
  have hroot : (inOrd t).getD 0 Node.zero = ⟨-1, nameOf t 0⟩ := by rw [inOrd_def]; rfl
  have hself := fun i h x hx => find_self hU (v := i) h (x := x) hx
  obtain ⟨U, hU0⟩ : ∃ U, inOrd t = U := ⟨_, rfl⟩
  simp only [hU0] at hU hUl hpr hag hat hpar hroot hself
  obtain ⟨x, hx0⟩ : ∃ x, textOf t 0 = x := ⟨_, rfl⟩
  rw [hx0] at hx hxs hpr hag
  have ev : parseV x = U := by rw [parseV, if_pos (by omega), hpr]; rfl
  have ee : parseE x = 0 := by rw [parseE, if_pos (by omega), hpr]; rfl
  have hy : textV U = x := by rw [textV, if_pos hU]; exact hag
  have hus := small_tree hU
  simp only [hx, errOf_true, nums, rowsS, nodes, zv, nv, bv, sv, VZ, BEq.rfl, seval, -Int.reduceNatCast', kAgg, scD, List.all_cons, List.all_nil]
  refine CallX.mk (Parse_ok x) rfl ?_
  simp only [ev, ee, nums, rowsS, nodes, zv, nv, bv, sv, VZ, BEq.rfl, seval, -Int.reduceNatCast', kAgg, scD, List.all_cons, List.all_nil]
  refine CallX.mk (Text_ok U hus) rfl ?_
  simp only [hy, hU, errOf_true, nums, rowsS, nodes, zv, nv, bv, sv, VZ, BEq.rfl, seval, -Int.reduceNatCast', kAgg, scD, List.all_cons, List.all_nil]
  refine CallX.mk (Parse_ok x) rfl ?_
  simp only [ev, ee, hUl, eself, beq_self_eq_true, nums, rowsS, nodes, zv, nv, bv, sv, VZ, BEq.rfl, seval, -Int.reduceNatCast', kAgg, scD, List.all_cons, List.all_nil]
  refine CallX.mk (same_ok U U (by omega)) rfl ?_
  simp only [decide_eq_true (show U = U from rfl), nums, rowsS, nodes, zv, nv, bv, sv, VZ, BEq.rfl, seval, -Int.reduceNatCast', kAgg, scD, List.all_cons, List.all_nil]
  refine LoopVC.mk (Y := Nat) (fun v => v ≤ t.length) (fun v => ⟨[(0, .c (nodes t)), (1, sv s), (7, .c (nodes U)), (13, nv v)], []⟩) (fun v => t.length - v) ⟨0, Enter.id ?_, by omega⟩ ?_
  · simp only [nums, rowsS, nodes, zv, nv, bv, sv, VZ, BEq.rfl, seval, -Int.reduceNatCast', kAgg, scD, List.all_cons, List.all_nil]
    try rfl
  intro v hv
  simp only [lt_nat, nums, rowsS, nodes, zv, nv, bv, sv, VZ, BEq.rfl, seval, -Int.reduceNatCast', kAgg, scD, List.all_cons, List.all_nil]
  refine guardB.mk (fun h => ?_) (fun h => ?_)
  · have hv' : v < t.length := by simpa using h
    clear h
    obtain ⟨i, hi, hnm, hi0⟩ := hat v hv'
    have hfd : findV U (t.getD v Node.zero).name = (i : Int) ∧ findE U (t.getD v Node.zero).name = 0 := hself i hi _ hnm
    simp only [getD_node t v hv', node_def, nums, rowsS, nodes, zv, nv, bv, sv, VZ, BEq.rfl, seval, -Int.reduceNatCast', kAgg, scD, List.all_cons, List.all_nil]
    refine ⟨⟨Int.natCast_nonneg v, hv'⟩, ?_⟩
    refine CallX.mk (Find_ok U _ hus) rfl ?_
    have q1 : decide ((i : Int) < 0) = false := decide_eq_false (by omega)
    have q2 : decide ((t.length : Int) ≤ (i : Int)) = false := decide_eq_false (by omega)
    by_cases h0 : v = 0
    · subst h0
      have hi00 : i = 0 := by
        have h1 := (hself 0 (by omega) (nameOf t 0) (by rw [hroot])).1
        have h2 := (hself i hi (nameOf t 0) hnm).1
        omega
      subst hi00
      have hr1 : (U.getD 0 Node.zero).parent = -1 := by rw [hroot]
      have q3 : decide ((t.length : Int) ≤ (-1 : Int)) = false := decide_eq_false (by omega)
      have q4 : decide ((-1 : Int) < 0) = true := rfl
      have q5 : (((0 : Nat) : Int) == 0) = true := rfl
      have q6 : decide ((0 : Int) < ((0 : Nat) : Int)) = false := rfl
      simp only [hfd.1, hfd.2, q1, q2, q3, q4, q5, q6, hUl, getD_node U 0 (by omega), node_def, hr1, wrap_nat (k := 0) (by omega), nums, rowsS, nodes, zv, nv, bv, sv, VZ, BEq.rfl, seval, -Int.reduceNatCast', kAgg, scD, List.all_cons, List.all_nil]
      refine ⟨⟨Int.natCast_nonneg _, by omega⟩, ⟨Int.natCast_nonneg _, by omega⟩, 0 + 1, Enter.id ?_, by omega, by show t.length - (0 + 1) < t.length - 0; omega⟩
      simp only [nums, rowsS, nodes, zv, nv, bv, sv, VZ, BEq.rfl, seval, -Int.reduceNatCast', kAgg, scD, List.all_cons, List.all_nil]
    · obtain ⟨p1, p2, p3⟩ := hpar i hi (hi0 h0) v hv' hnm
      have hpn := okTree_parN ht hv' (by omega)
      obtain ⟨j, hj⟩ : ∃ j : Nat, (U.getD i Node.zero).parent = (j : Int) := ⟨(U.getD i Node.zero).parent.toNat, by omega⟩
      rw [hj, Int.toNat_natCast] at p3
      rw [hj] at p2
      have q3 : decide ((t.length : Int) ≤ (j : Int)) = false := decide_eq_false (by omega)
      have q4 : decide ((j : Int) < 0) = false := decide_eq_false (by omega)
      have q5 : ((v : Int) == 0) = false := beq_eq_false_iff_ne.2 (by omega)
      have q6 : decide ((0 : Int) < (v : Int)) = true := decide_eq_true (by omega)
      have hpt : (t.getD v Node.zero).parent = (parN t v : Int) := hpn.2
      have hnn : (U.getD j Node.zero).name = (t.getD (parN t v) Node.zero).name := p3
      simp only [hfd.1, hfd.2, q1, q2, q3, q4, q5, q6, hUl, getD_node U i hi, getD_node U j (by omega), getD_node t v hv', getD_node t (parN t v) (by omega), node_def, hj, hpt, hnn, beq_self_eq_true, wrap_nat (k := v) (by omega), nums, rowsS, nodes, zv, nv, bv, sv, VZ, BEq.rfl, seval, -Int.reduceNatCast', kAgg, scD, List.all_cons, List.all_nil]
      refine ⟨⟨Int.natCast_nonneg i, by omega⟩, ⟨Int.natCast_nonneg i, by omega⟩, ⟨Int.natCast_nonneg i, by omega⟩, ⟨Int.natCast_nonneg j, by omega⟩, ⟨Int.natCast_nonneg v, hv'⟩, ⟨Int.natCast_nonneg _, by omega⟩, v + 1, Enter.id ?_, by omega, by show t.length - (v + 1) < t.length - v; omega⟩
      simp only [nums, rowsS, nodes, zv, nv, bv, sv, VZ, BEq.rfl, seval, -Int.reduceNatCast', kAgg, scD, List.all_cons, List.all_nil]
  · have hv' : v = t.length := by
      have : ¬ v < t.length := by simpa using h
      omega
    subst hv'
    clear h
    refine CallX.mk (Parse_ok s) rfl ?_
    cases hp : parseR s with
    | none =>
      have ev : parseV s = [] := by rw [parseV, if_pos (by omega), hp]; rfl
      have ee : parseE s = 10 := by rw [parseE, if_pos (by omega), hp]; rfl
      have z00 : (((0 : Nat) : Int) == 0) = true := rfl
      simp only [ev, ee, List.map_nil, List.length_nil, z00, nums, rowsS, nodes, zv, nv, bv, sv, VZ, BEq.rfl, seval, -Int.reduceNatCast', kAgg, scD, List.all_cons, List.all_nil]
      refine CallX.mk works_ok rfl ?_
      simp only [nums, rowsS, nodes, zv, nv, bv, sv, VZ, BEq.rfl, seval, -Int.reduceNatCast', kAgg, scD, List.all_cons, List.all_nil]
    | some u2 =>
      have ev : parseV s = u2 := by rw [parseV, if_pos (by omega), hp]; rfl
      have ee : parseE s = 0 := by rw [parseE, if_pos (by omega), hp]; rfl
      have hu2 := (parse_tree (by omega) hp).1
      have htx : textV u2 = s := by rw [textV, if_pos hu2]; exact back_text (by omega) hp
      simp only [ev, ee, nums, rowsS, nodes, zv, nv, bv, sv, VZ, BEq.rfl, seval, -Int.reduceNatCast', kAgg, scD, List.all_cons, List.all_nil]
      refine CallX.mk (Text_ok u2 (small_tree hu2)) rfl ?_
      simp only [hu2, htx, errOf_true, beq_self_eq_true, nums, rowsS, nodes, zv, nv, bv, sv, VZ, BEq.rfl, seval, -Int.reduceNatCast', kAgg, scD, List.all_cons, List.all_nil]
      refine CallX.mk works_ok rfl ?_
      simp only [nums, rowsS, nodes, zv, nv, bv, sv, VZ, BEq.rfl, seval, -Int.reduceNatCast', kAgg, scD, List.all_cons, List.all_nil]

end Go.Cp
namespace Go.Proofs.Ytiioldgdgfdjeaa
open Go Go.Proofs Go.RowKit Go.ChangeShapes Go.WideShapes Go.ChangeAt Go.Vx Go.Cp

theorem treeBack_lifted (os : Os) (started : os.Started) (H : Type) (enc : TypeId × Value → H) :
    ReturnsInHanded {} Try.checked os 11 .any (Rows.treeBackSpec.pre6 enc Try.prog Try.f11 Rows.treeBackRow.domain false) (Rows.treeBackSpec.post enc Try.prog Try.f11 false true false false) := by
  refine law_lifted (m := 8) (tb := 4) os started H enc own laid (by kernel_rfl) Try.func11 rfl Try.underlying4 rfl ?_ (by kernel_rfl) (by kernel_rfl)
    (ChangeSpec.witness6 (enc := enc) (C := Try.checked) false ⟨#[], #[.slice none 0 0, .string ⟨#[]⟩], []⟩ 8 (by kernel_rfl) (by kernel_rfl) (by kernel_rfl) (by kernel_rfl)) ?_
  · rw [Try.params11]
    intro ds hd
    match ds, hd with
    | [d1, d2], _ => exact ⟨rfl, rfl, rfl⟩
  · rw [Try.params11]
    intro dss h
    obtain ⟨x1, x2, rfl, h1, h2⟩ := typedL2 h
    obtain ⟨t, rfl, hs, hl⟩ := typed_nodes (m := 5) h1
    obtain ⟨s, rfl, _⟩ := typed_str (m := 7) h2
    simp only [argsAV, argAV, Try.underlying22, Try.underlying9]
    exact back_law t s hs

theorem treeBack_holds : Rows.TreeBackSaid :=
  OpenClaim.holds_of_wide 11 Try.f11 rfl rfl rfl rfl rfl rfl rfl ⟨rfl, rfl, rfl, rfl, rfl⟩ rfl rfl rfl rfl rfl (by kernel_rfl) Try.func11 (by kernel_rfl)
    (of_decide_eq_true (by kernel_rfl)) (by unfold Func.isWrapper; first | (rw [if_pos (by decide +kernel)]; kernel_rfl) | (rw [if_neg (by decide +kernel)]; exact ⟨rfl, rfl⟩))
    (fun os started H enc _ => treeBack_lifted os started H enc)
#print axioms treeBack_holds

end Go.Proofs.Ytiioldgdgfdjeaa
