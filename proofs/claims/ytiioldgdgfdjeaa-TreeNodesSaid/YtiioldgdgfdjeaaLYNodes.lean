/-
  Tree: the law TreeNodes. Conditions: none.
-/
import Derived.Test.YtiioldgdgfdjeaaMK
set_option linter.unusedVariables false
set_option linter.unusedSimpArgs false
set_option maxHeartbeats 8000000
set_option maxRecDepth 10000
namespace Go.Cp
open Go Go.Proofs Go.Vx

theorem childV_len (t : List Node) (v : Int) (h : t.length ≤ 100) : (childV t v).length ≤ 1000 := by
  have := kidsTo_len t v t.length
  rw [childV]
  split
  · show (kidsTo t v t.length).length ≤ 1000
    omega
  · exact Nat.zero_le _
theorem leavesR_len (t : List Node) (h : t.length ≤ 100) : (leavesR t).length ≤ 1000 := by
  have := leaves_len t
  rw [leavesR]
  split
  · omega
  · exact Nat.zero_le _
theorem pathV_len (t : List Node) (v : Int) : (pathV t v).length ≤ 1000 := by
  rw [pathV]
  split
  · rename_i hc
    obtain ⟨ht, u, rfl, hu⟩ := chk_one hc
    have := (ups_ok ht hu).len
    have := (okTree_len ht).2
    rw [List.length_reverse, upsI_len, Int.toNat_natCast]
    omega
  · exact Nat.zero_le _
theorem nodes_law (t : List Node) (v : Int) (hs : Small t) : Ok Try.prog E 9 [.c (nodes t), zv v] (bv true) := by
  refine ok_of_vc (L := []) (ts := [4]) envOK mixed Try.func9 rfl (by kernel_rfl) rfl (by kernel_rfl) rfl fun hl => ?_
  simp only [Try.f9, nums, rowsS, nodes, zv, nv, bv, sv, VZ, BEq.rfl, seval, -Int.reduceNatCast', kAgg, scD, List.all_cons, List.all_nil]
  refine guardB.mk (fun h => ?_) (fun h => ?_) <;> simp only [h, nums, rowsS, nodes, zv, nv, bv, sv, VZ, BEq.rfl, seval, -Int.reduceNatCast', kAgg, scD, List.all_cons, List.all_nil]
  · refine CallX.mk works_ok rfl ?_
    simp only [nums, rowsS, nodes, zv, nv, bv, sv, VZ, BEq.rfl, seval, -Int.reduceNatCast', kAgg, scD, List.all_cons, List.all_nil]
  · have hn : t.length ≤ 100 := by
      have : ¬ (100 : Int) < (t.length : Int) := by simpa using h
      omega
    clear h
    have h1 := childV_len t v hn
    have h2 := leavesR_len t hn
    have h3 := pathV_len t v
    refine CallX.mk (Children_ok t v hs) rfl ?_
    simp only [nums, rowsS, nodes, zv, nv, bv, sv, VZ, BEq.rfl, seval, -Int.reduceNatCast', kAgg, scD, List.all_cons, List.all_nil]
    refine CallX.mk (rChildren_ok t v hs) rfl ?_
    simp only [nums, rowsS, nodes, zv, nv, bv, sv, VZ, BEq.rfl, seval, -Int.reduceNatCast', kAgg, scD, List.all_cons, List.all_nil]
    refine CallX.mk (Leaves_ok t hs) rfl ?_
    simp only [nums, rowsS, nodes, zv, nv, bv, sv, VZ, BEq.rfl, seval, -Int.reduceNatCast', kAgg, scD, List.all_cons, List.all_nil]
    refine CallX.mk (rLeaves_ok t hs) rfl ?_
    simp only [nums, rowsS, nodes, zv, nv, bv, sv, VZ, BEq.rfl, seval, -Int.reduceNatCast', kAgg, scD, List.all_cons, List.all_nil]
    refine CallX.mk (Path_ok t v hs) rfl ?_
    simp only [nums, rowsS, nodes, zv, nv, bv, sv, VZ, BEq.rfl, seval, -Int.reduceNatCast', kAgg, scD, List.all_cons, List.all_nil]
    refine CallX.mk (rPath_ok t v hs) rfl ?_
    simp only [nums, rowsS, nodes, zv, nv, bv, sv, VZ, BEq.rfl, seval, -Int.reduceNatCast', kAgg, scD, List.all_cons, List.all_nil]
    refine CallX.mk (Depth_ok t v hs) rfl ?_
    simp only [nums, rowsS, nodes, zv, nv, bv, sv, VZ, BEq.rfl, seval, -Int.reduceNatCast', kAgg, scD, List.all_cons, List.all_nil]
    refine CallX.mk (rDepth_ok t v hs) rfl ?_
    simp only [nums, rowsS, nodes, zv, nv, bv, sv, VZ, BEq.rfl, seval, -Int.reduceNatCast', kAgg, scD, List.all_cons, List.all_nil]
    refine CallX.mk (check_ok t hs) rfl ?_
    simp only [nums, rowsS, nodes, zv, nv, bv, sv, VZ, BEq.rfl, seval, -Int.reduceNatCast', kAgg, scD, List.all_cons, List.all_nil]
    refine CallX.mk (rcheck_ok t hs) rfl ?_
    simp only [nums, rowsS, nodes, zv, nv, bv, sv, VZ, BEq.rfl, seval, -Int.reduceNatCast', kAgg, scD, List.all_cons, List.all_nil]
    refine CallX.mk (numbers_ok (childV t v) (childV t v) h1) rfl ?_
    simp only [decide_eq_true (show childV t v = childV t v from rfl), nums, rowsS, nodes, zv, nv, bv, sv, VZ, BEq.rfl, seval, -Int.reduceNatCast', kAgg, scD, List.all_cons, List.all_nil]
    refine CallX.mk (numbers_ok (leavesR t) (leavesR t) h2) rfl ?_
    simp only [decide_eq_true (show leavesR t = leavesR t from rfl), nums, rowsS, nodes, zv, nv, bv, sv, VZ, BEq.rfl, seval, -Int.reduceNatCast', kAgg, scD, List.all_cons, List.all_nil]
    refine CallX.mk (numbers_ok (pathV t v) (pathV t v) h3) rfl ?_
    simp only [decide_eq_true (show pathV t v = pathV t v from rfl), nums, rowsS, nodes, zv, nv, bv, sv, VZ, BEq.rfl, seval, -Int.reduceNatCast', kAgg, scD, List.all_cons, List.all_nil]
    refine CallX.mk works_ok rfl ?_
    simp only [nums, rowsS, nodes, zv, nv, bv, sv, VZ, BEq.rfl, seval, -Int.reduceNatCast', kAgg, scD, List.all_cons, List.all_nil]

end Go.Cp
namespace Go.Proofs.Ytiioldgdgfdjeaa
open Go Go.Proofs Go.RowKit Go.ChangeShapes Go.WideShapes Go.ChangeAt Go.Vx Go.Cp

theorem treeNodes_lifted (os : Os) (started : os.Started) (H : Type) (enc : TypeId × Value → H) :
    ReturnsInHanded {} Try.checked os 9 .any (Rows.treeNodesSpec.pre6 enc Try.prog Try.f9 Rows.treeNodesRow.domain false) (Rows.treeNodesSpec.post enc Try.prog Try.f9 false true false false) := by
  refine law_lifted (m := 8) (tb := 4) os started H enc own laid (by kernel_rfl) Try.func9 rfl Try.underlying4 rfl ?_ (by kernel_rfl) (by kernel_rfl)
    (ChangeSpec.witness6 (enc := enc) (C := Try.checked) false ⟨#[], #[.slice none 0 0, .int .i64 0], []⟩ 8 (by kernel_rfl) (by kernel_rfl) (by kernel_rfl) (by kernel_rfl)) ?_
  · rw [Try.params9]
    intro ds hd
    match ds, hd with
    | [d1, d2], _ => exact ⟨rfl, rfl, rfl⟩
  · rw [Try.params9]
    intro dss h
    obtain ⟨x1, x2, rfl, h1, h2⟩ := typedL2 h
    obtain ⟨t, rfl, hs, hl⟩ := typed_nodes (m := 5) h1
    obtain ⟨v, rfl, _⟩ := typed_int (m := 7) h2
    simp only [argsAV, argAV, Try.underlying22, Try.underlying3]
    exact nodes_law t v hs

theorem treeNodes_holds : Rows.TreeNodesSaid :=
  OpenClaim.holds_of_wide 9 Try.f9 rfl rfl rfl rfl rfl rfl rfl ⟨rfl, rfl, rfl, rfl, rfl⟩ rfl rfl rfl rfl rfl (by kernel_rfl) Try.func9 (by kernel_rfl)
    (of_decide_eq_true (by kernel_rfl)) (by unfold Func.isWrapper; first | (rw [if_pos (by decide +kernel)]; kernel_rfl) | (rw [if_neg (by decide +kernel)]; exact ⟨rfl, rfl⟩))
    (fun os started H enc _ => treeNodes_lifted os started H enc)
#print axioms treeNodes_holds

end Go.Proofs.Ytiioldgdgfdjeaa
