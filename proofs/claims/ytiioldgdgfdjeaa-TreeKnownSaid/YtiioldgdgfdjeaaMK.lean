/-
  Tree: the known example; works. Conditions: none.
  Tree: the arguments of the laws as data. Conditions: none.
-/
import Derived.Test.YtiioldgdgfdjeaaMJ
import Derived.Test.YtiioldgdgfdjeaaMD

section
set_option linter.unusedVariables false
set_option linter.unusedSimpArgs false
set_option maxHeartbeats 8000000
set_option maxRecDepth 100000
namespace Go.Cp
open Go Go.Proofs Go.Vx

def exT : List Node := [⟨-1, ⟨#[114]⟩⟩, ⟨0, ⟨#[120]⟩⟩, ⟨1, ⟨#[97]⟩⟩, ⟨1, ⟨#[98]⟩⟩, ⟨0, ⟨#[99]⟩⟩]
def exS : ByteArray := ⟨#[40, 40, 97, 44, 98, 41, 120, 44, 99, 41, 114]⟩
def exP : List Node := [⟨-1, ⟨#[114]⟩⟩, ⟨0, ⟨#[97]⟩⟩, ⟨0, ⟨#[99]⟩⟩]
theorem ex_ok : okTree exT = true := by kernel_rfl
theorem ex_small : Small exT := fun k hk => by
  have h5 : k < 5 := hk
  match k, h5 with
  | 0, _ => decide
  | 1, _ => decide
  | 2, _ => decide
  | 3, _ => decide
  | 4, _ => decide
theorem ex_leaves : leavesR exT = [2, 3, 4] := by kernel_rfl
theorem ex_path : pathV exT 3 = [0, 1, 3] := by kernel_rfl
theorem ex_chk1 : chkE exT [3] = 0 := by kernel_rfl
theorem ex_com : comV exT 2 4 = 0 := by kernel_rfl
theorem ex_chk2 : chkE exT [2, 4] = 0 := by kernel_rfl
theorem ex_clade : cladeV exT 1 = 3 := by kernel_rfl
theorem ex_chk3 : chkE exT [1] = 0 := by kernel_rfl
theorem ex_text : textV exT = exS := by kernel_rfl
theorem ex_read : rdG exS 24 false 0 [] (-1) = some (11, exT) := by kernel_rfl
theorem ex_prune : pruneV exT [4, 2] = exP ∧ pruneE exT [4, 2] = 0 := ⟨by kernel_rfl, by kernel_rfl⟩
theorem parse_ex : Ok Try.prog E 16 [sv exS] (.tp [.c (nodes exT), zv 0]) := Parse_good exS (by decide) (11, exT) ex_read (by decide) ex_ok

theorem example_ok : Ok Try.prog E 13 [] (.c (nodes exT)) := by
  refine ok_of_vc (L := []) (ts := [0]) envOK mixed Try.func13 rfl (by kernel_rfl) rfl (by kernel_rfl) rfl fun hl => ?_
  simp only [Try.f13, exT, node_def, nums, rowsS, nodes, zv, nv, bv, sv, VZ, BEq.rfl, seval, -Int.reduceNatCast', kAgg, scD, List.all_cons, List.all_nil]

theorem three_eq : (((3 : Nat) : Int) == 3) = true := rfl
theorem exs_eq : (exS.toList == (ByteArray.mk #[40, 40, 97, 44, 98, 41, 120, 44, 99, 41, 114]).toList) = true := by rw [str_beq]; exact decide_eq_true rfl
theorem works_ok : Ok Try.prog E 26 [] (bv true) := by
  refine ok_of_vc (L := []) (ts := [0]) envOK mixed Try.func26 rfl (by kernel_rfl) rfl (by kernel_rfl) rfl fun hl => ?_
  simp only [Try.f26, nums, rowsS, nodes, zv, nv, bv, sv, VZ, BEq.rfl, seval, -Int.reduceNatCast', kAgg, scD, List.all_cons, List.all_nil]
  refine CallX.mk example_ok rfl ?_
  simp only [nums, rowsS, nodes, zv, nv, bv, sv, VZ, BEq.rfl, seval, -Int.reduceNatCast', kAgg, scD, List.all_cons, List.all_nil]
  refine CallX.mk (Leaves_ok exT ex_small) rfl ?_
  simp only [ex_leaves, ex_ok, errOf_true, nums, rowsS, nodes, zv, nv, bv, sv, VZ, BEq.rfl, seval, -Int.reduceNatCast', kAgg, scD, List.all_cons, List.all_nil]
  refine CallX.mk (Path_ok exT 3 ex_small) rfl ?_
  simp only [ex_path, ex_chk1, nums, rowsS, nodes, zv, nv, bv, sv, VZ, BEq.rfl, seval, -Int.reduceNatCast', kAgg, scD, List.all_cons, List.all_nil]
  refine CallX.mk (Common_ok exT 2 4 ex_small) rfl ?_
  simp only [ex_com, ex_chk2, nums, rowsS, nodes, zv, nv, bv, sv, VZ, BEq.rfl, seval, -Int.reduceNatCast', kAgg, scD, List.all_cons, List.all_nil]
  refine CallX.mk (Clade_ok exT 1 ex_small) rfl ?_
  simp only [ex_clade, ex_chk3, bitsU, nums, rowsS, nodes, zv, nv, bv, sv, VZ, BEq.rfl, seval, -Int.reduceNatCast', kAgg, scD, List.all_cons, List.all_nil]
  refine CallX.mk (Text_ok exT ex_small) rfl ?_
  simp only [ex_text, ex_ok, errOf_true, nums, rowsS, nodes, zv, nv, bv, sv, VZ, BEq.rfl, seval, -Int.reduceNatCast', kAgg, scD, List.all_cons, List.all_nil]
  refine CallX.mk parse_ex rfl ?_
  simp only [nums, rowsS, nodes, zv, nv, bv, sv, VZ, BEq.rfl, seval, -Int.reduceNatCast', kAgg, scD, List.all_cons, List.all_nil]
  refine CallX.mk (Ok.vals (Prune_ok exT [4, 2] ex_small (by decide))) rfl ?_
  simp only [ex_prune.1, ex_prune.2, nums, rowsS, nodes, zv, nv, bv, sv, VZ, BEq.rfl, seval, -Int.reduceNatCast', kAgg, scD, List.all_cons, List.all_nil]
  refine CallX.mk (numbers_ok [2, 3, 4] [2, 3, 4] (by decide)) rfl ?_
  simp only [decide_eq_true (show ([2, 3, 4] : List Int) = [2, 3, 4] from rfl), nums, rowsS, nodes, zv, nv, bv, sv, VZ, BEq.rfl, seval, -Int.reduceNatCast', kAgg, scD, List.all_cons, List.all_nil]
  refine CallX.mk (numbers_ok [0, 1, 3] [0, 1, 3] (by decide)) rfl ?_
  simp only [decide_eq_true (show ([0, 1, 3] : List Int) = [0, 1, 3] from rfl), nums, rowsS, nodes, zv, nv, bv, sv, VZ, BEq.rfl, seval, -Int.reduceNatCast', kAgg, scD, List.all_cons, List.all_nil]
  simp only [three_eq, exs_eq, nums, rowsS, nodes, zv, nv, bv, sv, VZ, BEq.rfl, seval, -Int.reduceNatCast', kAgg, scD, List.all_cons, List.all_nil]
  refine CallX.mk (rSame_ok exT exT (by decide)) rfl ?_
  simp only [decide_eq_true (show exT = exT from rfl), nums, rowsS, nodes, zv, nv, bv, sv, VZ, BEq.rfl, seval, -Int.reduceNatCast', kAgg, scD, List.all_cons, List.all_nil]
  refine CallX.mk (rSame_ok exP exP (by decide)) rfl ?_
  simp only [decide_eq_true (show exP = exP from rfl), nums, rowsS, nodes, zv, nv, bv, sv, VZ, BEq.rfl, seval, -Int.reduceNatCast', kAgg, scD, List.all_cons, List.all_nil]

end Go.Cp
end

section
set_option linter.unusedVariables false
set_option linter.unusedSimpArgs false
set_option maxHeartbeats 8000000
set_option maxRecDepth 10000
namespace Go.Cp
open Go Go.Proofs Go.Vx

theorem list_of {α : Type} {Q : List D → Prop} {R : α → Prop} {enc : α → List D} (h : ∀ x, Q x → ∃ a, x = enc a ∧ R a) : ∀ xs : List (List D), (∀ x ∈ xs, Q x) → ∃ l : List α, xs = l.map enc ∧ ∀ a ∈ l, R a
  | [], _ => ⟨[], rfl, by simp⟩
  | x :: xs, hq => by
    obtain ⟨a, rfl, ha⟩ := h x (hq x (List.mem_cons_self ..))
    obtain ⟨l, rfl, hl⟩ := list_of h xs fun y hy => hq y (List.mem_cons_of_mem _ hy)
    exact ⟨a :: l, rfl, fun b hb => by
      rcases List.mem_cons.1 hb with rfl | hb
      · exact ha
      · exact hl b hb⟩
theorem typed_node {m : Nat} {x : List D} (h : Typed Try.prog (m + 2) 26 x) : ∃ c : Node, x = c.enc ∧ c.name.size ≤ 9223372036854775807 := by
  unfold Typed at h
  rw [Try.underlying26] at h
  obtain ⟨_, _, rfl, h1, _, _, rfl, h2, rfl⟩ := h
  simp only [Typed, Try.underlying3, TypedK] at h1
  simp only [Typed, Try.underlying9, TypedK] at h2
  obtain ⟨n, rfl, _⟩ := h1
  obtain ⟨s, rfl, hs⟩ := h2
  exact ⟨⟨n, s⟩, rfl, hs⟩
theorem typed_nodes {m : Nat} {x : List D} (h : Typed Try.prog (m + 3) 22 x) : ∃ l : List Node, x = [nodes l] ∧ Small l ∧ l.length ≤ 9223372036854775807 := by
  unfold Typed at h
  rw [Try.underlying22] at h
  obtain ⟨xs, rfl, hx, hl⟩ := h
  obtain ⟨l, rfl, hr⟩ := list_of (fun x hx => typed_node hx) xs hx
  rw [List.length_map] at hl
  refine ⟨l, rfl, fun k hk => ?_, hl⟩
  rw [List.getD, List.getElem?_eq_getElem hk]
  exact hr _ (List.getElem_mem hk)
theorem typed_int {m : Nat} {x : List D} (h : Typed Try.prog (m + 1) 3 x) : ∃ n : Int, x = num n ∧ True := by
  simp only [Typed, Try.underlying3, TypedK] at h
  obtain ⟨n, rfl, _⟩ := h
  exact ⟨n, rfl, trivial⟩
theorem typed_str {m : Nat} {x : List D} (h : Typed Try.prog (m + 1) 9 x) : ∃ s : ByteArray, x = [.sc (.string s)] ∧ s.size ≤ 9223372036854775807 := by
  simp only [Typed, Try.underlying9, TypedK] at h
  obtain ⟨s, rfl, hs⟩ := h
  exact ⟨s, rfl, hs⟩
def u8E (n : Nat) : List D := [.sc (.int .u8 n)]
theorem typed_u8 {m : Nat} {x : List D} (h : Typed Try.prog (m + 1) 5 x) : ∃ n : Nat, x = u8E n ∧ n < 256 := by
  simp only [Typed, Try.underlying5, TypedK] at h
  obtain ⟨n, rfl, hn⟩ := h
  have h1 : 0 ≤ n ∧ n < 256 := by
    simp [Lit.wf, IntKind.min, IntKind.max, IntKind.bits, IntKind.signed] at hn
    omega
  exact ⟨n.toNat, by rw [u8E, Int.toNat_of_nonneg h1.1], by omega⟩
theorem typed_byte {m : Nat} {x : List D} (h : Typed Try.prog (m + 1) 5 x) : ∃ n : Nat, x = [.sc (.int .u8 n)] ∧ n < 256 := typed_u8 h
theorem own : ownKnob Try.prog.godebug = none := by kernel_rfl
theorem laid : laidOutB Try.prog = true := by kernel_rfl

theorem typedL1 {P : Program} {m t1 : Nat} {dss : List (List D)} (h : TypedL P m [t1] dss) : ∃ x1, dss = [x1] ∧ Typed P m t1 x1 :=
  match dss, h with
  | [x1], ⟨h1, _⟩ => ⟨x1, rfl, h1⟩
theorem typedL2 {P : Program} {m t1 t2 : Nat} {dss : List (List D)} (h : TypedL P m [t1, t2] dss) : ∃ x1 x2, dss = [x1, x2] ∧ Typed P m t1 x1 ∧ Typed P m t2 x2 :=
  match dss, h with
  | [x1, x2], ⟨h1, h2, _⟩ => ⟨x1, x2, rfl, h1, h2⟩
theorem typedL3 {P : Program} {m t1 t2 t3 : Nat} {dss : List (List D)} (h : TypedL P m [t1, t2, t3] dss) : ∃ x1 x2 x3, dss = [x1, x2, x3] ∧ Typed P m t1 x1 ∧ Typed P m t2 x2 ∧ Typed P m t3 x3 :=
  match dss, h with
  | [x1, x2, x3], ⟨h1, h2, h3, _⟩ => ⟨x1, x2, x3, rfl, h1, h2, h3⟩
theorem typedL4 {P : Program} {m t1 t2 t3 t4 : Nat} {dss : List (List D)} (h : TypedL P m [t1, t2, t3, t4] dss) : ∃ x1 x2 x3 x4, dss = [x1, x2, x3, x4] ∧ Typed P m t1 x1 ∧ Typed P m t2 x2 ∧ Typed P m t3 x3 ∧ Typed P m t4 x4 :=
  match dss, h with
  | [x1, x2, x3, x4], ⟨h1, h2, h3, h4, _⟩ => ⟨x1, x2, x3, x4, rfl, h1, h2, h3, h4⟩
theorem typedL5 {P : Program} {m t1 t2 t3 t4 t5 : Nat} {dss : List (List D)} (h : TypedL P m [t1, t2, t3, t4, t5] dss) : ∃ x1 x2 x3 x4 x5, dss = [x1, x2, x3, x4, x5] ∧ Typed P m t1 x1 ∧ Typed P m t2 x2 ∧ Typed P m t3 x3 ∧ Typed P m t4 x4 ∧ Typed P m t5 x5 :=
  match dss, h with
  | [x1, x2, x3, x4, x5], ⟨h1, h2, h3, h4, h5, _⟩ => ⟨x1, x2, x3, x4, x5, rfl, h1, h2, h3, h4, h5⟩

end Go.Cp
end
