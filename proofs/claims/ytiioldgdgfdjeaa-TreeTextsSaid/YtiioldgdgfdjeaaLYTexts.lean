/-
  Tree: the law TreeTexts. Conditions: none.
-/
import Derived.Test.YtiioldgdgfdjeaaMK
import Derived.Test.YtiioldgdgfdjeaaMO
set_option linter.unusedVariables false
set_option linter.unusedSimpArgs false
set_option maxHeartbeats 8000000
set_option maxRecDepth 10000
namespace Go.Cp
open Go Go.Proofs Go.Vx

theorem parseR_ok {s : ByteArray} {t : List Node} (h : parseR s = some t) : okTree t = true := by
  unfold parseR at h
  split at h
  · split at h
    · rename_i hh
      injection h with h
      rw [← h]; exact hh.2
    · cases h
  · cases h
theorem parseV_len (s : ByteArray) : (parseV s).length ≤ 63 := by
  rw [parseV]
  split
  · cases h : parseR s with
    | none => exact Nat.zero_le _
    | some t => exact (okTree_len (parseR_ok h)).2
  · exact Nat.zero_le _
theorem texts_law (t : List Node) (s : ByteArray) (hs : Small t) : Ok Try.prog E 4 [.c (nodes t), sv s] (bv true) := by
  refine ok_of_vc (L := []) (ts := [4]) envOK mixed Try.func4 rfl (by kernel_rfl) rfl (by kernel_rfl) rfl fun hl => ?_
  simp only [Try.f4, nums, rowsS, nodes, zv, nv, bv, sv, VZ, BEq.rfl, seval, -Int.reduceNatCast', kAgg, scD, List.all_cons, List.all_nil]
  refine guardB.mk (fun h => ?_) (fun h => ?_) <;> simp only [h, nums, rowsS, nodes, zv, nv, bv, sv, VZ, BEq.rfl, seval, -Int.reduceNatCast', kAgg, scD, List.all_cons, List.all_nil]
  · refine CallX.mk works_ok rfl ?_
    simp only [nums, rowsS, nodes, zv, nv, bv, sv, VZ, BEq.rfl, seval, -Int.reduceNatCast', kAgg, scD, List.all_cons, List.all_nil]
  clear h
  refine guardB.mk (fun h => ?_) (fun h => ?_) <;> simp only [h, nums, rowsS, nodes, zv, nv, bv, sv, VZ, BEq.rfl, seval, -Int.reduceNatCast', kAgg, scD, List.all_cons, List.all_nil]
  · refine CallX.mk works_ok rfl ?_
    simp only [nums, rowsS, nodes, zv, nv, bv, sv, VZ, BEq.rfl, seval, -Int.reduceNatCast', kAgg, scD, List.all_cons, List.all_nil]
  clear h
  refine CallX.mk (Text_ok t hs) rfl ?_
  simp only [nums, rowsS, nodes, zv, nv, bv, sv, VZ, BEq.rfl, seval, -Int.reduceNatCast', kAgg, scD, List.all_cons, List.all_nil]
  refine CallX.mk (rText_ok t hs) rfl ?_
  simp only [nums, rowsS, nodes, zv, nv, bv, sv, VZ, BEq.rfl, seval, -Int.reduceNatCast', kAgg, scD, List.all_cons, List.all_nil]
  refine CallX.mk (Parse_ok s) rfl ?_
  simp only [nums, rowsS, nodes, zv, nv, bv, sv, VZ, BEq.rfl, seval, -Int.reduceNatCast', kAgg, scD, List.all_cons, List.all_nil]
  refine CallX.mk (rParse_ok s) rfl ?_
  have hlen := parseV_len s
  obtain ⟨V, hV⟩ : ∃ V, parseV s = V := ⟨_, rfl⟩
  rw [hV] at hlen
  simp only [hV, beq_self_eq_true, nums, rowsS, nodes, zv, nv, bv, sv, VZ, BEq.rfl, seval, -Int.reduceNatCast', kAgg, scD, List.all_cons, List.all_nil]
  refine CallX.mk (rSame_ok V V (by omega)) rfl ?_
  simp only [decide_eq_true (show V = V from rfl), nums, rowsS, nodes, zv, nv, bv, sv, VZ, BEq.rfl, seval, -Int.reduceNatCast', kAgg, scD, List.all_cons, List.all_nil]
  refine CallX.mk works_ok rfl ?_
  simp only [nums, rowsS, nodes, zv, nv, bv, sv, VZ, BEq.rfl, seval, -Int.reduceNatCast', kAgg, scD, List.all_cons, List.all_nil]

end Go.Cp
namespace Go.Proofs.Ytiioldgdgfdjeaa
open Go Go.Proofs Go.RowKit Go.ChangeShapes Go.WideShapes Go.ChangeAt Go.Vx Go.Cp

theorem treeTexts_lifted (os : Os) (started : os.Started) (H : Type) (enc : TypeId × Value → H) :
    ReturnsInHanded {} Try.checked os 4 .any (Rows.treeTextsSpec.pre6 enc Try.prog Try.f4 Rows.treeTextsRow.domain false) (Rows.treeTextsSpec.post enc Try.prog Try.f4 false true false false) := by
  refine law_lifted (m := 8) (tb := 4) os started H enc own laid (by kernel_rfl) Try.func4 rfl Try.underlying4 rfl ?_ (by kernel_rfl) (by kernel_rfl)
    (ChangeSpec.witness6 (enc := enc) (C := Try.checked) false ⟨#[], #[.slice none 0 0, .string ⟨#[]⟩], []⟩ 8 (by kernel_rfl) (by kernel_rfl) (by kernel_rfl) (by kernel_rfl)) ?_
  · rw [Try.params4]
    intro ds hd
    match ds, hd with
    | [d1, d2], _ => exact ⟨rfl, rfl, rfl⟩
  · rw [Try.params4]
    intro dss h
    obtain ⟨x1, x2, rfl, h1, h2⟩ := typedL2 h
    obtain ⟨t, rfl, hs, hl⟩ := typed_nodes (m := 5) h1
    obtain ⟨s, rfl, _⟩ := typed_str (m := 7) h2
    simp only [argsAV, argAV, Try.underlying22, Try.underlying9]
    exact texts_law t s hs

theorem treeTexts_holds : Rows.TreeTextsSaid :=
  OpenClaim.holds_of_wide 4 Try.f4 rfl rfl rfl rfl rfl rfl rfl ⟨rfl, rfl, rfl, rfl, rfl⟩ rfl rfl rfl rfl rfl (by kernel_rfl) Try.func4 (by kernel_rfl)
    (of_decide_eq_true (by kernel_rfl)) (by unfold Func.isWrapper; first | (rw [if_pos (by decide +kernel)]; kernel_rfl) | (rw [if_neg (by decide +kernel)]; exact ⟨rfl, rfl⟩))
    (fun os started H enc _ => treeTexts_lifted os started H enc)
#print axioms treeTexts_holds

end Go.Proofs.Ytiioldgdgfdjeaa
