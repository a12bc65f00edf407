/-
  Tree: the law TreePrunes. Conditions: none.
-/
import Derived.Test.YtiioldgdgfdjeaaMK
import Derived.Test.YtiioldgdgfdjeaaML
set_option linter.unusedVariables false
set_option linter.unusedSimpArgs false
set_option maxHeartbeats 8000000
set_option maxRecDepth 10000
namespace Go.Cp
open Go Go.Proofs Go.Vx

theorem typed_nums {m : Nat} {x : List D} (h : Typed Try.prog (m + 2) 35 x) : ∃ l : List Int, x = [nums l] := by
  unfold Typed at h
  rw [Try.underlying35] at h
  obtain ⟨xs, rfl, hx, _⟩ := h
  obtain ⟨l, rfl, _⟩ := list_of (fun x hx => typed_int hx) xs hx
  exact ⟨l, rfl⟩
theorem allLen_nodes (l : List Node) : AllLen 2 (l.map Node.enc) := fun y hy => by
  obtain ⟨c, _, rfl⟩ := List.mem_map.1 hy
  try rfl
theorem pruneV_len (t : List Node) (keep : List Int) : (pruneV t keep).length ≤ t.length := by
  rw [pruneV]
  split
  · rw [prTo_len]; exact rank_le _ _
  · exact Nat.zero_le _
theorem prunes_law (t : List Node) (keep : List Int) (hs : Small t) : Ok Try.prog E 5 [.c (nodes t), .c (nums keep)] (bv true) := by
  refine ok_of_vc (L := []) (ts := [4]) envOK mixed Try.func5 rfl (by kernel_rfl) rfl (by kernel_rfl) rfl fun hl => ?_
  simp only [Try.f5, nums, rowsS, nodes, zv, nv, bv, sv, VZ, BEq.rfl, seval, -Int.reduceNatCast', kAgg, scD, List.all_cons, List.all_nil]
  refine guardB.mk (fun h => ?_) (fun h => ?_) <;> simp only [h, nums, rowsS, nodes, zv, nv, bv, sv, VZ, BEq.rfl, seval, -Int.reduceNatCast', kAgg, scD, List.all_cons, List.all_nil]
  · refine CallX.mk works_ok rfl ?_
    simp only [nums, rowsS, nodes, zv, nv, bv, sv, VZ, BEq.rfl, seval, -Int.reduceNatCast', kAgg, scD, List.all_cons, List.all_nil]
  have hn : t.length ≤ 100 := by
    have : ¬ (100 : Int) < (t.length : Int) := by simpa using h
    omega
  clear h
  refine guardB.mk (fun h => ?_) (fun h => ?_) <;> simp only [h, nums, rowsS, nodes, zv, nv, bv, sv, VZ, BEq.rfl, seval, -Int.reduceNatCast', kAgg, scD, List.all_cons, List.all_nil]
  · refine CallX.mk works_ok rfl ?_
    simp only [nums, rowsS, nodes, zv, nv, bv, sv, VZ, BEq.rfl, seval, -Int.reduceNatCast', kAgg, scD, List.all_cons, List.all_nil]
  have hk : keep.length ≤ 100 := by
    have : ¬ (100 : Int) < (keep.length : Int) := by simpa using h
    omega
  clear h
  refine ⟨⟨by omega, allLen_nodes t⟩, ⟨by omega, allLen_num keep⟩, ?_⟩
  have hvl := pruneV_len t keep
  refine CallX.mk (Prune_ok t keep hs (by omega)) rfl ?_
  simp only [nums, rowsS, nodes, zv, nv, bv, sv, VZ, BEq.rfl, seval, -Int.reduceNatCast', kAgg, scD, List.all_cons, List.all_nil]
  refine CallX.mk (rPrune_ok t keep hs (by omega)) rfl ?_
  obtain ⟨V, hV⟩ : ∃ V, pruneV t keep = V := ⟨_, rfl⟩
  obtain ⟨Er, hEr⟩ : ∃ e, pruneE t keep = e := ⟨_, rfl⟩
  rw [hV] at hvl
  have eself : ∀ z : Int, (z != z) = false := fun z => by simp
  simp only [hV, hEr, eself, nums, rowsS, nodes, zv, nv, bv, sv, VZ, BEq.rfl, seval, -Int.reduceNatCast', kAgg, scD, List.all_cons, List.all_nil]
  refine CallX.mk (rSame_ok V V (by omega)) rfl ?_
  simp only [decide_eq_true (show V = V from rfl), nums, rowsS, nodes, zv, nv, bv, sv, VZ, BEq.rfl, seval, -Int.reduceNatCast', kAgg, scD, List.all_cons, List.all_nil]
  refine LoopVC.mk (Y := Nat × List (List D)) (fun y => y.1 ≤ V.length ∧ y.2.length = V.length ∧ AllLen 2 y.2) (fun y => ⟨[(0, .c (nodes t)), (1, .c (nums keep)), (5, .osl 21 0), (6, .osl 24 0), (7, .osl 30 0), (11, nv y.1)], [(21, .arr 26 0 (t.map Node.enc)), (24, .arr 3 0 (keep.map num)), (30, .arr 26 0 y.2)]⟩) (fun y => V.length - y.1) ⟨(0, V.map Node.enc), Enter.mk [] [] [] ?_, by omega, by rw [List.length_map], allLen_nodes V⟩ ?_
  · simp only [nums, rowsS, nodes, zv, nv, bv, sv, VZ, BEq.rfl, seval, -Int.reduceNatCast', kAgg, scD, List.all_cons, List.all_nil]
    try rfl
  rintro ⟨k, l⟩ ⟨hk1, hk2, hk3⟩
  have hk1 : k ≤ V.length := hk1
  have hk2 : l.length = V.length := hk2
  have hk3 : AllLen 2 l := hk3
  simp only [hk2, lt_nat, nums, rowsS, nodes, zv, nv, bv, sv, VZ, BEq.rfl, seval, -Int.reduceNatCast', kAgg, scD, List.all_cons, List.all_nil]
  refine guardB.mk (fun h => ?_) (fun h => ?_) <;> simp only [h, nums, rowsS, nodes, zv, nv, bv, sv, VZ, BEq.rfl, seval, -Int.reduceNatCast', kAgg, scD, List.all_cons, List.all_nil]
  · have hk' : k < V.length := by simpa using h
    have hrow : (l.getD k []).length = 2 := hk3 _ (by rw [getD_of [] l k (by omega)]; exact List.getElem_mem _)
    have hdr : (l.getD k []).drop 2 = [] := List.drop_eq_nil_of_le (by omega)
    simp only [hrow, hk2, hdr, wrap_nat (k := k) (by omega), nums, rowsS, nodes, zv, nv, bv, sv, VZ, BEq.rfl, seval, -Int.reduceNatCast', kAgg, scD, List.all_cons, List.all_nil]
    refine ⟨Int.natCast_nonneg k, hk', hk', (k + 1, l.set k [.sc (.int .i64 0), .sc (.string ⟨#[]⟩)]), Enter.mk [] [] [] ?_, ⟨by show k + 1 ≤ V.length; omega, by rw [List.length_set]; exact hk2, fun y hy => ?_⟩, by show V.length - (k + 1) < V.length - k; omega⟩
    · simp only [nums, rowsS, nodes, zv, nv, bv, sv, VZ, BEq.rfl, seval, -Int.reduceNatCast', kAgg, scD, List.all_cons, List.all_nil]
    · rcases List.mem_or_eq_of_mem_set hy with hy | rfl
      · exact hk3 y hy
      · rfl
  · refine CallX.mk (rSame_ok t t (by omega)) rfl ?_
    simp only [decide_eq_true (show t = t from rfl), nums, rowsS, nodes, zv, nv, bv, sv, VZ, BEq.rfl, seval, -Int.reduceNatCast', kAgg, scD, List.all_cons, List.all_nil]
    refine CallX.mk (numbers_ok keep keep (by omega)) rfl ?_
    simp only [decide_eq_true (show keep = keep from rfl), nums, rowsS, nodes, zv, nv, bv, sv, VZ, BEq.rfl, seval, -Int.reduceNatCast', kAgg, scD, List.all_cons, List.all_nil]
    refine CallX.mk works_ok rfl ?_
    simp only [nums, rowsS, nodes, zv, nv, bv, sv, VZ, BEq.rfl, seval, -Int.reduceNatCast', kAgg, scD, List.all_cons, List.all_nil]

end Go.Cp
namespace Go.Proofs.Ytiioldgdgfdjeaa
open Go Go.Proofs Go.RowKit Go.ChangeShapes Go.WideShapes Go.ChangeAt Go.Vx Go.Cp

theorem treePrunes_lifted (os : Os) (started : os.Started) (H : Type) (enc : TypeId × Value → H) :
    ReturnsInHanded {} Try.checked os 5 .any (Rows.treePrunesSpec.pre6 enc Try.prog Try.f5 Rows.treePrunesRow.domain false) (Rows.treePrunesSpec.post enc Try.prog Try.f5 false true false false) := by
  refine law_lifted (m := 8) (tb := 4) os started H enc own laid (by kernel_rfl) Try.func5 rfl Try.underlying4 rfl ?_ (by kernel_rfl) (by kernel_rfl)
    (ChangeSpec.witness6 (enc := enc) (C := Try.checked) false ⟨#[], #[.slice none 0 0, .slice none 0 0], []⟩ 8 (by kernel_rfl) (by kernel_rfl) (by kernel_rfl) (by kernel_rfl)) ?_
  · rw [Try.params5]
    intro ds hd
    match ds, hd with
    | [d1, d2], _ => exact ⟨rfl, rfl, rfl⟩
  · rw [Try.params5]
    intro dss h
    obtain ⟨x1, x2, rfl, h1, h2⟩ := typedL2 h
    obtain ⟨t, rfl, hs, hl⟩ := typed_nodes (m := 5) h1
    obtain ⟨keep, rfl⟩ := typed_nums (m := 6) h2
    simp only [argsAV, argAV, Try.underlying22, Try.underlying35]
    exact prunes_law t keep hs

theorem treePrunes_holds : Rows.TreePrunesSaid :=
  OpenClaim.holds_of_wide 5 Try.f5 rfl rfl rfl rfl rfl rfl rfl ⟨rfl, rfl, rfl, rfl, rfl⟩ rfl rfl rfl rfl rfl (by kernel_rfl) Try.func5 (by kernel_rfl)
    (of_decide_eq_true (by kernel_rfl)) (by unfold Func.isWrapper; first | (rw [if_pos (by decide +kernel)]; kernel_rfl) | (rw [if_neg (by decide +kernel)]; exact ⟨rfl, rfl⟩))
    (fun os started H enc _ => treePrunes_lifted os started H enc)
#print axioms treePrunes_holds

end Go.Proofs.Ytiioldgdgfdjeaa
