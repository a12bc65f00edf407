/-
  Tree: strings.Builder: copyCheck and String over the shelf's laws, laid at this program and turned into contracts with boxes. Conditions: none.
  Tree: strings.Builder: WriteByte, WriteString, String. Conditions: none.
  Tree: the text of a tree (plain). Conditions: none.
  Tree: Text's writer, Text. Conditions: none. (Printed by wip/tree/genXk.py.)
-/
import Derived.Test.YtiioldgdgfdjeaaMF
import Derived.Shelf.Strings.Builder1

section
set_option linter.unusedVariables false
set_option linter.unusedSimpArgs false
set_option maxHeartbeats 4000000
set_option maxRecDepth 10000
namespace Go.Cp
open Go Go.Proofs Go.Vx

def renB : Go.Shelf.Ren := ⟨fun | 169 => 49 | 240 => 75 | 276 => 84 | n => n, fun | 0 => 0 | 3 => 3 | 4 => 4 | 5 => 5 | 9 => 9 | 20 => 20 | 37 => 68 | 70 => 67 | 72 => 70 | 127 => 114 | 164 => 120 | n => n, fun n => n⟩
theorem layCopy : Lays.n240 Try.prog renB := {
  mixed := by kernel_rfl,
  f240 := Try.func75.trans (congrArg some (by kernel_rfl)),
  f276 := Try.func84.trans (congrArg some (by kernel_rfl)),
  t0 := Try.underlying0,
  a0 := Try.isAgg0,
  z0 := Try.sizeOf0,
  v0 := Try.zeroValue0,
  t4 := Try.underlying4,
  a4 := Try.isAgg4,
  z4 := Try.sizeOf4,
  v4 := Try.zeroValue4,
  t9 := Try.underlying9,
  a9 := Try.isAgg9,
  z9 := Try.sizeOf9,
  v9 := Try.zeroValue9,
  t20 := Try.underlying20,
  a20 := Try.isAgg20,
  z20 := Try.sizeOf20,
  v20 := Try.zeroValue20,
  t70 := Try.underlying67,
  a70 := Try.isAgg67,
  z70 := Try.sizeOf67,
  v70 := Try.zeroValue67,
  t72 := Try.underlying70,
  a72 := Try.isAgg70,
  z72 := Try.sizeOf70,
  v72 := Try.zeroValue70,
  t164 := Try.underlying120,
  a164 := Try.isAgg120,
  z164 := Try.sizeOf120,
  v164 := Try.zeroValue120 }
theorem layString : Lays.n169 Try.prog renB := {
  mixed := by kernel_rfl,
  f169 := Try.func49.trans (congrArg some (by kernel_rfl)),
  t0 := Try.underlying0,
  a0 := Try.isAgg0,
  z0 := Try.sizeOf0,
  v0 := Try.zeroValue0,
  t3 := Try.underlying3,
  a3 := Try.isAgg3,
  z3 := Try.sizeOf3,
  v3 := Try.zeroValue3,
  t9 := Try.underlying9,
  a9 := Try.isAgg9,
  z9 := Try.sizeOf9,
  v9 := Try.zeroValue9,
  t37 := Try.underlying68,
  a37 := Try.isAgg68,
  z37 := Try.sizeOf68,
  v37 := Try.zeroValue68,
  t70 := Try.underlying67,
  a70 := Try.isAgg67,
  z70 := Try.sizeOf67,
  v70 := Try.zeroValue67,
  t72 := Try.underlying70,
  a72 := Try.isAgg70,
  z72 := Try.sizeOf70,
  v72 := Try.zeroValue70,
  t127 := Try.underlying114,
  a127 := Try.isAgg114,
  z127 := Try.sizeOf114,
  v127 := Try.zeroValue114 }
theorem extraB : Builder.Extra Try.prog renB := {
  sizeBuilder := by kernel_rfl,
  liesBuilder := by kernel_rfl,
  t5 := Try.underlying5,
  a5 := Try.isAgg5,
  z5 := Try.sizeOf5,
  v5 := Try.zeroValue5,
  infoByte := by kernel_rfl,
  cellsByte := by kernel_rfl,
  sizeByte := by kernel_rfl,
  neB5 := by decide }

theorem arg1 {vals : Array Value} (h : vals.size = 1) : vals = #[vals.getD 0 undef] := by
  apply Array.ext
  · simpa using h
  · intro i h1 h2
    have h2 : i < 1 := h2
    match i, h2 with
    | 0, _ => simp [Array.getD_eq_getD_getElem?, Array.getElem?_eq_getElem h1]
theorem arg2 {vals : Array Value} (h : vals.size = 2) : vals = #[vals.getD 0 undef, vals.getD 1 undef] := by
  apply Array.ext
  · simpa using h
  · intro i h1 h2
    have h2 : i < 2 := h2
    match i, h2 with
    | 0, _ => simp [Array.getD_eq_getD_getElem?, Array.getElem?_eq_getElem h1]
    | 1, _ => simp [Array.getD_eq_getD_getElem?, Array.getElem?_eq_getElem h1]
theorem bp_val {w : World} {M : Nat → Prop} {β : Nat → Value} {lk : Nat → Box} {v : Value} {id g : Nat} (h : RV w M β lk v (.bp id 0)) (hb : β id = .pointer (some ⟨g, 0, none⟩)) : v = .pointer (some ⟨g, 0, none⟩) := by
  cases h with
  | bp _ _ g' cs hl hb' =>
    rw [hb'] at hb
    injection hb with hb
    injection hb with hb
    injection hb with hb
    rw [hb]
theorem X0_keep (w : World) (M : Nat → Prop) (β : Nat → Value) (bx : List (Nat × Box)) : Keep (X0 Try.prog E w M β bx) w := ⟨rfl, rfl, rfl, Nat.le_refl _, fun _ _ _ => rfl⟩

/-! copyCheck -/
theorem copy_used (B : AV) (r : List (Nat × Box)) : OkM Try.prog E 75 [.bp 2001 0] ((2001, .cells [.bp 2001 0, B]) :: r) (.tp []) ((2001, .cells [.bp 2001 0, B]) :: r) := by
  refine ⟨⟨_, Try.func75, by decide, rfl⟩, fun w M β vals hM hF hvs hv => ?_⟩
  have hbx := hF.box 2001
  rw [lookB_cons, if_pos rfl] at hbx
  obtain ⟨g, el, conc, hb, hown, hg, hcs, hc⟩ := hbx
  have h0 := bp_val (hc 0 _ rfl).2 hb
  have ha := bp_val (hv 0 _ rfl) hb
  rw [arg1 hvs, ha]
  have hsz : 0 < conc.size := by rw [hcs]; exact Nat.zero_lt_succ _
  have hcell : w.cell? ⟨g, 0, none⟩ = some (.pointer (some ⟨g, 0, none⟩)) := by
    have e : conc[0]? = some (conc.getD 0 undef) := by simp [Array.getD_eq_getD_getElem?, hsz]
    simp [World.cell?, hg, e, h0]
  refine (Any.Builder_copyCheck_used layCopy extraB.toX72 g w hcell).mono ?_
  rintro e w' ⟨rfl, rfl⟩
  exact ⟨_, β, rfl, X0_keep _ _ _ _, hF, fun id => Turned.refl _ _, .tp #[] [] rfl fun j av hj => by simp at hj⟩

theorem copy_fresh : OkM Try.prog E 75 [.bp 2001 0] [(2001, .cells [.zp 70, .c (.sc (.slice none 0 0))])] (.tp []) [(2001, .cells [.bp 2001 0, .c (.sc (.slice none 0 0))])] := by
  refine ⟨⟨_, Try.func75, by decide, rfl⟩, fun w M β vals hM hF hvs hv => ?_⟩
  have hbx := hF.box 2001
  rw [lookB_cons, if_pos rfl] at hbx
  obtain ⟨g, el, conc, hb, hown, hg, hcs, hc⟩ := hbx
  have ha := bp_val (hv 0 _ rfl) hb
  rw [arg1 hvs, ha]
  have hel : 70 = el := (hc 0 _ rfl).1
  subst hel
  have h0 : conc.getD 0 undef = .pointer none := by
    have := (hc 0 _ rfl).2
    generalize conc.getD 0 undef = v at this
    cases this; rfl
  have h1 : conc.getD 1 undef = .slice none 0 0 := by
    have := (hc 1 _ rfl).2
    generalize conc.getD 1 undef = v at this
    cases this with
    | c _ _ h => cases h; rfl
  have hconc := arg2 (vals := conc) hcs
  rw [h0, h1] at hconc
  subst hconc
  have hlt : g < w.heap.size := (Array.getElem?_eq_some_iff.1 hg).1
  refine (Any.Builder_copyCheck_fresh layCopy extraB.toX72 g w (by simp [World.cell?, hg]) (by simp [World.shape?, hg]; rfl) (by simp [World.frozen?, hg])).mono ?_
  rintro e w' ⟨rfl, rfl⟩
  have hg' : (w.setCell ⟨g, 0, none⟩ (.pointer (some ⟨g, 0, none⟩))).heap[g]? = some (.cells #[.pointer (some ⟨g, 0, none⟩), .slice none 0 0] 70 (0, 0)) := by
    simp [World.setCell, Array.getElem?_modify, hg]
  have ho' : ∀ k, k ≠ g → (w.setCell ⟨g, 0, none⟩ (.pointer (some ⟨g, 0, none⟩))).heap[k]? = w.heap[k]? := fun k hk => by
    simp [World.setCell, Array.getElem?_modify, Ne.symm hk]
  have hext : extOf [(2001, .cells [.zp 70, .c (.sc (.slice none 0 0))])] β g := ⟨2001, rfl, by rw [hb]; rfl⟩
  refine ⟨_, β, rfl, ⟨rfl, rfl, rfl, by simp [X0], fun k hk hx => ho' k fun e => hx (e ▸ hext)⟩, ⟨fun id => ?_, fun i j k hi hj => ?_⟩, fun id => ?_, .tp #[] [] rfl fun j av hj => by simp at hj⟩
  · rw [lookB_cons]
    by_cases h : id = 2001
    · rw [if_pos h, h]
      refine ⟨g, 70, _, hb, .inr hext, hg', rfl, fun j av hj => ?_⟩
      match j with
      | 0 =>
        simp only [List.getElem?_cons_zero, Option.some.injEq] at hj
        subst hj
        exact ⟨rfl, .bp 2001 0 g _ rfl hb⟩
      | 1 =>
        simp only [List.getElem?_cons_succ, List.getElem?_cons_zero, Option.some.injEq] at hj
        subst hj
        exact ⟨rfl, .c _ _ (.sc _ rfl)⟩
      | j + 2 => simp at hj
    · rw [if_neg h]; trivial
  · have hi1 : i = 2001 := by
      by_cases h : i = 2001
      · exact h
      · rw [lookB_cons, if_neg h] at hi; cases hi
    have hj1 : j = 2001 := by
      by_cases h : j = 2001
      · exact h
      · rw [lookB_cons, if_neg h] at hj; cases hj
    exact fun _ _ => hi1.trans hj1.symm
  · rw [lookB_cons, lookB_cons]
    by_cases h : id = 2001
    · rw [if_pos h, if_pos h]; exact ⟨⟨_, rfl⟩, rfl⟩
    · rw [if_neg h, if_neg h]; trivial

end Go.Cp
end

section
set_option linter.unusedVariables false
set_option linter.unusedSimpArgs false
set_option maxHeartbeats 4000000
set_option maxRecDepth 10000
namespace Go.Cp
open Go Go.Proofs Go.Shelf Go.RowKit Go.Vx

def u8D (c : Int) : List D := [.sc (.int .u8 c)]
theorem ev_nilIface (fr : List (Nat × AV)) : ev fr (.const .nilIface) = .c (.sc .nilIface) := rfl
theorem fitC_nilIface (bx : List (Nat × Box)) : FitC bx (.sc .nilIface) (.c (.sc .nilIface)) = True := eq_true rfl
theorem u8D_all (c : Int) : AllLen 1 [u8D c] := fun y hy => by rw [List.mem_singleton.1 hy]; rfl
theorem allLen_app {m : Nat} {xs ys : List (List D)} (h : AllLen m xs) (h' : AllLen m ys) : AllLen m (xs ++ ys) := fun y hy => (List.mem_append.1 hy).elim (h y) (h' y)
theorem wbyte_fresh (c : Int) : OkM Try.prog E 52 [.bp 2001 0, .c (.sc (.int .u8 c))] [(2001, .cells [.zp 70, .c (.sc (.slice none 0 0))])] (.c (.sc .nilIface)) [(2001, .cells [.bp 2001 0, .osl 2002 0]), (2002, .arr 5 0 [u8D c])] := by
  refine okM_of_vc (L := []) (ts := [4]) envOK mixed Try.func52 rfl (by kernel_rfl) rfl (by decide) (by kernel_rfl) rfl fun hl hlb => ?_
  simp only [Try.f52, nums, rowsS, nodes, zv, nv, bv, sv, VZ, BEq.rfl, seval, -Int.reduceNatCast', kAgg, scD, List.all_cons, List.all_nil]
  refine CallMVC.mk [] [] copy_fresh ?_ ?_
  · simp only [nums, rowsS, nodes, zv, nv, bv, sv, VZ, BEq.rfl, seval, -Int.reduceNatCast', kAgg, scD, List.all_cons, List.all_nil]
  simp only [ev_nilIface, nums, rowsS, nodes, zv, nv, bv, sv, VZ, BEq.rfl, seval, -Int.reduceNatCast', kAgg, scD, List.all_cons, List.all_nil]
  refine ⟨u8D_all c, Enter.mk [] [] [(2002, 14)] ?_⟩
  simp only [u8D, fitC_nilIface, nums, rowsS, nodes, zv, nv, bv, sv, VZ, BEq.rfl, seval, -Int.reduceNatCast', kAgg, scD, List.all_cons, List.all_nil]
theorem wbyte_used (c : Int) (xs : List (List D)) (hn : xs.length ≤ 1000000) : OkM Try.prog E 52 [.bp 2001 0, .c (.sc (.int .u8 c))] [(2001, .cells [.bp 2001 0, .osl 2002 0]), (2002, .arr 5 0 xs)] (.c (.sc .nilIface)) [(2001, .cells [.bp 2001 0, .osl 2002 1]), (2002, .arr 5 1 (xs ++ [u8D c]))] := by
  refine okM_of_vc (L := []) (ts := [4]) envOK mixed Try.func52 rfl (by kernel_rfl) rfl (by decide) (by kernel_rfl) rfl fun hl hlb => ?_
  simp only [Try.f52, nums, rowsS, nodes, zv, nv, bv, sv, VZ, BEq.rfl, seval, -Int.reduceNatCast', kAgg, scD, List.all_cons, List.all_nil]
  refine CallMVC.mk [] [] (copy_used (.osl 2002 0) [(2002, .arr 5 0 xs)]) ?_ ?_
  · simp only [nums, rowsS, nodes, zv, nv, bv, sv, VZ, BEq.rfl, seval, -Int.reduceNatCast', kAgg, scD, List.all_cons, List.all_nil]
  simp only [ev_nilIface, nums, rowsS, nodes, zv, nv, bv, sv, VZ, BEq.rfl, seval, -Int.reduceNatCast', kAgg, scD, List.all_cons, List.all_nil]
  refine ⟨⟨by omega, u8D_all c⟩, Enter.mk [] [] [] ?_⟩
  simp only [u8D, fitC_nilIface, nums, rowsS, nodes, zv, nv, bv, sv, VZ, BEq.rfl, seval, -Int.reduceNatCast', kAgg, scD, List.all_cons, List.all_nil]
theorem wstr_fresh (s : ByteArray) (hs : s.size ≤ 1000000) : OkM Try.prog E 47 [.bp 2001 0, sv s] [(2001, .cells [.zp 70, .c (.sc (.slice none 0 0))])] (.tp [nv s.size, .c (.sc .nilIface)]) [(2001, .cells [.bp 2001 0, .osl 2002 0]), (2002, .arr 5 0 (strD s))] := by
  refine okM_of_vc (L := []) (ts := [4, 5]) envOK mixed Try.func47 rfl (by kernel_rfl) rfl (by decide) (by kernel_rfl) rfl fun hl hlb => ?_
  simp only [Try.f47, nums, rowsS, nodes, zv, nv, bv, sv, VZ, BEq.rfl, seval, -Int.reduceNatCast', kAgg, scD, List.all_cons, List.all_nil]
  refine CallMVC.mk [] [] copy_fresh ?_ ?_
  · simp only [nums, rowsS, nodes, zv, nv, bv, sv, VZ, BEq.rfl, seval, -Int.reduceNatCast', kAgg, scD, List.all_cons, List.all_nil]
  simp only [ev_nilIface, nums, rowsS, nodes, zv, nv, bv, sv, VZ, BEq.rfl, seval, -Int.reduceNatCast', kAgg, scD, List.all_cons, List.all_nil]
  refine ⟨⟨by rw [strD_len]; omega, strD_all s⟩, Enter.mk [] [] [(2002, 14)] ?_⟩
  simp only [fitC_nilIface, nums, rowsS, nodes, zv, nv, bv, sv, VZ, BEq.rfl, seval, -Int.reduceNatCast', kAgg, scD, List.all_cons, List.all_nil]
theorem wstr_used (s : ByteArray) (xs : List (List D)) (hs : s.size ≤ 1000000) (hn : xs.length ≤ 1000000) : OkM Try.prog E 47 [.bp 2001 0, sv s] [(2001, .cells [.bp 2001 0, .osl 2002 0]), (2002, .arr 5 0 xs)] (.tp [nv s.size, .c (.sc .nilIface)]) [(2001, .cells [.bp 2001 0, .osl 2002 1]), (2002, .arr 5 1 (xs ++ strD s))] := by
  refine okM_of_vc (L := []) (ts := [4, 5]) envOK mixed Try.func47 rfl (by kernel_rfl) rfl (by decide) (by kernel_rfl) rfl fun hl hlb => ?_
  simp only [Try.f47, nums, rowsS, nodes, zv, nv, bv, sv, VZ, BEq.rfl, seval, -Int.reduceNatCast', kAgg, scD, List.all_cons, List.all_nil]
  refine CallMVC.mk [] [] (copy_used (.osl 2002 0) [(2002, .arr 5 0 xs)]) ?_ ?_
  · simp only [nums, rowsS, nodes, zv, nv, bv, sv, VZ, BEq.rfl, seval, -Int.reduceNatCast', kAgg, scD, List.all_cons, List.all_nil]
  simp only [ev_nilIface, nums, rowsS, nodes, zv, nv, bv, sv, VZ, BEq.rfl, seval, -Int.reduceNatCast', kAgg, scD, List.all_cons, List.all_nil]
  refine ⟨⟨by rw [strD_len]; omega, strD_all s⟩, Enter.mk [] [] [] ?_⟩
  simp only [fitC_nilIface, nums, rowsS, nodes, zv, nv, bv, sv, VZ, BEq.rfl, seval, -Int.reduceNatCast', kAgg, scD, List.all_cons, List.all_nil]

/-! String -/
theorem string_run (b g cap el : Nat) (p : Value) (cur : Array Value) (l : List UInt8) (w : World) (h0 : l ≠ []) (hbk : w.heap[b]? = some (.cells #[p, .slice (some ⟨g, 0, none⟩) l.length cap] el (0, 0))) (hg : w.heap[g]? = some (.cells cur 5 (0, 0)))
    (hnc : l.length ≤ cap) (hcm : cap ≤ maxLen) (hcs : cur.size = cap) (htake : cur.toList.take l.length = Lib.byteCells l) :
    Calls Try.prog (renB.f 169) #[.pointer (some ⟨b, 0, none⟩)] w fun e w' => e = .returned (.string ⟨l.toArray⟩) ∧ w' = w.drew.freeze ⟨g, 0, none⟩ l.length := by
  have L := layString
  have X := extraB
  have hl0 : l.length ≠ 0 := by simpa using h0
  have c1 : w.drew.cell? ⟨b, 1, none⟩ = some (.slice (some ⟨g, 0, none⟩) l.length cap) := by
    have : w.drew.heap[b]? = some (.cells #[p, .slice (some ⟨g, 0, none⟩) l.length cap] el (0, 0)) := hbk
    rw [Lib.cell_of_heap this]; rfl
  have hSD : (Builtin.unsafeSliceData_ #[(renB.t 37)] (renB.t 127) #[.slice (some ⟨g, 0, none⟩) l.length cap]).run Try.prog w.drew = .ok (.pointer (some ⟨g, 0, none⟩)) w.drew :=
    Lib.run_unsafeSliceData_row _ _ _ _ _ _ (by omega)
  have hcell : ∀ j x, l[j]? = some x → w.drew.cell? ((⟨g, 0, none⟩ : Addr).add j) = some (.int .u8 x.toNat) := by
    intro j x hx
    have hg' : w.drew.heap[g]? = some (.cells cur 5 (0, 0)) := hg
    have hjl : j < l.length := (List.getElem?_eq_some_iff.1 hx).1
    have e1 : cur.toList[j]? = some (.int .u8 x.toNat) := by
      rw [← List.getElem?_take_of_lt hjl, htake]
      simp [Lib.byteCells, hx]
    have e2 : cur[j]? = some (.int .u8 x.toNat) := by simpa using e1
    have e3 : (⟨g, 0, none⟩ : Addr).add j = ⟨g, j, none⟩ := by simp [Addr.add]; exact fun h => h.symm
    rw [e3]
    simp [World.cell?, hg', e2]
  have hUS : (Builtin.unsafeString_ #[(renB.t 127), (renB.t 3)] (renB.t 9) #[.pointer (some ⟨g, 0, none⟩), .int .i64 l.length]).run Try.prog w.drew = .ok (.string ⟨l.toArray⟩) (w.drew.freeze ⟨g, 0, none⟩ l.length) := by
    refine Lib.run_unsafeString_row w.drew (renB.t 127) (renB.t 3) (renB.t 9) (renB.t 5) L.t127 X.cellsByte g cur.size (by have hg' : w.drew.heap[g]? = some (.cells cur (renB.t 5) (0, 0)) := hg; simp [World.shape?, hg']) l h0 (by omega) (by unfold maxLen at hcm; omega) hcell
  have mixed := L.mixed
  have t72 := L.t72; have a72 := L.a72; have z72 := L.z72; have v72 := L.v72; have u72 := run_underlying L.t72
  have t70 := L.t70; have a70 := L.a70; have z70 := L.z70; have v70 := L.v70; have u70 := run_underlying L.t70
  have t37 := L.t37; have a37 := L.a37; have z37 := L.z37; have v37 := L.v37; have u37 := run_underlying L.t37
  have t127 := L.t127; have a127 := L.a127; have z127 := L.z127; have v127 := L.v127; have u127 := run_underlying L.t127
  have t3 := L.t3; have a3 := L.a3; have z3 := L.z3; have v3 := L.v3; have u3 := run_underlying L.t3
  have t9 := L.t9; have a9 := L.a9; have z9 := L.z9; have v9 := L.v9; have u9 := run_underlying L.t9
  have t5 := X.t5; have a5 := X.a5; have z5 := X.z5; have v5 := X.v5; have u5 := run_underlying X.t5
  go_enter L.f169, Body.n169_ntmps renB
  go_wp2
  go_region_o
  all_goals (go_wp2; go_ret; exact ⟨rfl, rfl⟩)

theorem strD_get (s : ByteArray) (j : Nat) : (strD s)[j]? = (s.data.toList[j]?).map fun b => [.sc (.int .u8 b.toNat)] := by rw [strD, List.getElem?_map]
theorem bstring_ok (s : ByteArray) (hs : 0 < s.size) : OkH Try.prog E 49 [.bp 2001 0] [(2001, .cells [.bp 2001 0, .osl 2002 0]), (2002, .arr 5 0 (strD s))] (sv s) [] := by
  refine ⟨⟨_, Try.func49, by decide, rfl⟩, fun w M β vals hM hF hvs hv => ?_⟩
  have hbx := hF.box 2001
  have hbx2 := hF.box 2002
  rw [lookB_cons, if_pos rfl] at hbx
  rw [lookB_cons, if_neg (by decide), lookB_cons, if_pos rfl] at hbx2
  obtain ⟨g, el, conc, hb, hown, hg, hcs, hc⟩ := hbx
  obtain ⟨te, flat, hE, hte, hxl, hrow, hown2, hat⟩ := hbx2
  have ha := bp_val (hv 0 _ rfl) hb
  rw [arg1 hvs, ha]
  have hte1 : te.size = 1 := by
    obtain ⟨i, z, h1, h2, _⟩ := (envOK 5 te hE).info
    have h3 : Try.prog.info? 5 = some i := h1
    have : (Try.prog.info? 5).map (·.size) = some 1 := by kernel_rfl
    rw [h3] at this
    injection this with this
    rw [← h2]; exact this
  rw [hte1, strD_len] at hrow
  have hat : ∀ (j : Nat) b, s.data.toList[j]? = some b → flat.getD j undef = .int .u8 b.toNat := fun j b hj => by
    have := hat j _ 0 _ (by rw [strD_get, hj]; rfl) rfl
    rw [hte1, Nat.mul_one, Nat.add_zero] at this
    generalize flat.getD j undef = v at this ⊢
    cases this; rfl
  have hc1 : conc.getD 1 undef = β 2002 := by
    have := (hc 1 _ rfl).2
    generalize conc.getD 1 undef = v at this
    cases this with
    | osl _ _ _ _ h =>
      have h : OslOK (.arr 5 0 (strD s)) (β 2002) 0 v := h
      exact h.2 rfl
  have hconc := arg2 (vals := conc) hcs
  rw [hc1] at hconc
  rcases hrow.2 with ⟨hv0, hn0⟩ | ⟨g2, cap, cur, hv2, _, hg2, hnc, hcm, hcur, htake⟩
  · omega
  · rw [hv2] at hconc
    rw [hconc] at hg
    have hfl : flat = Lib.byteCells s.data.toList := by
      refine List.ext_getElem ?_ fun j h1 h2 => ?_
      · rw [hrow.1, Lib.byteCells_length, Array.length_toList, Nat.mul_one]; rfl
      · have hj : j < s.data.toList.length := by rw [Lib.byteCells_length] at h2; exact h2
        have := hat j _ (List.getElem?_eq_getElem hj)
        rw [List.getD, List.getElem?_eq_getElem h1] at this
        simp only [Option.getD_some] at this
        rw [this]
        simp [Lib.byteCells]
    have hlen : s.data.toList.length = s.size := by rw [Array.length_toList]; rfl
    rw [← hlen] at hg hnc htake
    rw [Nat.mul_one] at hcur htake
    rw [hfl] at htake
    refine (string_run g g2 cap el _ cur s.data.toList w (by intro e; rw [e] at hlen; simp at hlen; omega) hg hg2 hnc hcm hcur htake).mono ?_
    rintro e w' ⟨rfl, rfl⟩
    have hext : extOf [(2001, .cells [.bp 2001 0, .osl 2002 0]), (2002, .arr 5 0 (strD s))] β g2 := ⟨2002, rfl, by rw [hv2]; rfl⟩
    refine ⟨_, β, rfl, ⟨?_, ?_, ?_, ?_, fun k hk hx => ?_⟩, ⟨fun id => trivial, fun i j k hi => by cases hi⟩, ?_⟩
    · unfold World.freeze; split <;> rfl
    · unfold World.freeze; split <;> rfl
    · unfold World.freeze; split <;> rfl
    · unfold World.freeze; split <;> simp [X0]
    · have hne : g2 ≠ k := fun e => hx (e ▸ hext)
      unfold World.freeze
      split
      · rfl
      · simp [Array.getElem?_modify, hne, X0]
        try rfl
    · exact .c _ _ (.sc _ rfl)

end Go.Cp
end

section
set_option linter.unusedVariables false
set_option linter.unusedSimpArgs false
set_option maxHeartbeats 4000000
set_option maxRecDepth 10000
namespace Go.Cp
open Go Go.Proofs Go.Vx

theorem ba_size (a b : ByteArray) : (a ++ b).size = a.size + b.size := ByteArray.size_append ..
theorem ba_assoc (a b c : ByteArray) : a ++ b ++ c = a ++ (b ++ c) := by
  apply ByteArray.ext
  simp
theorem ba_nil (a : ByteArray) : (⟨#[]⟩ : ByteArray) ++ a = a := by
  apply ByteArray.ext
  simp
theorem strD_app (a b : ByteArray) : strD (a ++ b) = strD a ++ strD b := by
  simp [strD]
theorem strD_one (c : UInt8) : strD ⟨#[c]⟩ = [[.sc (.int .u8 c.toNat)]] := rfl

def nameOf (t : List Node) (v : Nat) : ByteArray := (t.getD v Node.zero).name
/-- "(" or ",", ahead of each -/
def joinTo (f : Nat → ByteArray) (l : List Int) : Nat → ByteArray
  | 0 => ⟨#[]⟩
  | k + 1 => joinTo f l k ++ ((if k = 0 then ⟨#[40]⟩ else ⟨#[44]⟩) ++ f (l.getD k 0).toNat)
def textN (t : List Node) : Nat → Nat → ByteArray
  | 0, _ => ⟨#[]⟩
  | n + 1, v => joinTo (textN t n) (kids t v) (kids t v).length ++ ((if kids t v = [] then ⟨#[]⟩ else ⟨#[41]⟩) ++ nameOf t v)
def textOf (t : List Node) (v : Nat) : ByteArray := textN t t.length v

theorem joinTo_congr {f g : Nat → ByteArray} {l : List Int} : ∀ k, k ≤ l.length → (∀ x ∈ l, f x.toNat = g x.toNat) → joinTo f l k = joinTo g l k
  | 0, _, _ => rfl
  | k + 1, hk, h => by
    rw [joinTo, joinTo, joinTo_congr k (by omega) h, h _ (by rw [getD_of 0 l k (by omega)]; exact List.getElem_mem _)]
theorem kid_at {t : List Node} {v : Int} {x : Int} (h : x ∈ kids t v) : ∃ u : Nat, x = (u : Int) ∧ u < t.length ∧ parOf t u = v := by
  obtain ⟨u, hu, e⟩ := List.mem_map.1 h
  obtain ⟨h1, h2⟩ := List.mem_filter.1 hu
  exact ⟨u, e.symm, by simpa using h1, by simpa using h2⟩
theorem kid_gt {t : List Node} (ht : okTree t = true) {v u : Nat} (hu : u < t.length) (h : parOf t u = (v : Int)) : v < u ∧ u ≠ 0 := by
  by_cases h0 : u = 0
  · subst h0
    have := okTree_root ht
    omega
  · have := okTree_par ht hu (by omega)
    omega
theorem textN_fuel {t : List Node} (ht : okTree t = true) : ∀ m n k v, t.length - v ≤ m → t.length - v ≤ n → t.length - v ≤ k → v < t.length → textN t n v = textN t k v
  | 0, n, k, v, h1, h2, h3, h4 => by omega
  | m + 1, 0, k, v, h1, h2, h3, h4 => by omega
  | m + 1, n + 1, 0, v, h1, h2, h3, h4 => by omega
  | m + 1, n + 1, k + 1, v, h1, h2, h3, h4 => by
    rw [textN, textN]
    rw [joinTo_congr _ (Nat.le_refl _) fun x hx => ?_]
    obtain ⟨u, rfl, hu, hp⟩ := kid_at hx
    have := (kid_gt ht hu hp).1
    rw [Int.toNat_natCast]
    exact textN_fuel ht m n k u (by omega) (by omega) (by omega) hu
theorem textOf_eq {t : List Node} (ht : okTree t = true) {v : Nat} (hv : v < t.length) : textOf t v = joinTo (textOf t) (kids t v) (kids t v).length ++ ((if kids t v = [] then ⟨#[]⟩ else ⟨#[41]⟩) ++ nameOf t v) := by
  obtain ⟨n, hn⟩ : ∃ n, t.length = n + 1 := ⟨t.length - 1, by omega⟩
  have e : textOf t v = textN t (n + 1) v := by rw [textOf, hn]
  rw [e, textN, joinTo_congr _ (Nat.le_refl _) fun x hx => ?_]
  obtain ⟨u, rfl, hu, hp⟩ := kid_at hx
  have := (kid_gt ht hu hp).1
  rw [Int.toNat_natCast, textOf]
  exact textN_fuel ht n n t.length u (by omega) (by omega) (by omega) hu
theorem joinTo_mono (f : Nat → ByteArray) (l : List Int) : ∀ n k, k ≤ n → (joinTo f l k).size ≤ (joinTo f l n).size
  | 0, k, h => by rw [show k = 0 by omega]; exact Nat.le_refl _
  | n + 1, k, h => by
    by_cases e : k = n + 1
    · rw [e]; exact Nat.le_refl _
    · have := joinTo_mono f l n k (by omega)
      rw [joinTo, ba_size]
      omega
theorem joinTo_size (f : Nat → ByteArray) (l : List Int) (k : Nat) : (joinTo f l (k + 1)).size = (joinTo f l k).size + (1 + (f (l.getD k 0).toNat).size) := by
  rw [joinTo, ba_size, ba_size]
  split <;> rfl

/-! how long it is -/
theorem countP_disj {α : Type} {p q : α → Bool} : ∀ {l : List α}, (∀ x ∈ l, p x = true → q x = false) → l.countP p + l.countP q = l.countP fun x => p x || q x
  | [], _ => rfl
  | x :: l, h => by
    have ih := countP_disj (l := l) fun y hy => h y (List.mem_cons_of_mem _ hy)
    have hx := h x (List.mem_cons_self ..)
    simp only [List.countP_cons]
    cases hp : p x <;> cases hq : q x
    · simp; omega
    · simp; omega
    · simp; omega
    · rw [hx hp] at hq; cases hq
def under (t : List Node) (v u : Nat) : Bool := decide (v ∈ ups t u)
def cnt (t : List Node) (v : Nat) : Nat := (List.range t.length).countP (under t v)
def underK (t : List Node) (l : List Int) (k u : Nat) : Bool := (List.range k).any fun i => under t (l.getD i 0).toNat u
theorem underK_succ (t : List Node) (l : List Int) (k u : Nat) : underK t l (k + 1) u = (underK t l k u || under t (l.getD k 0).toNat u) := by
  simp [underK, List.range_succ, List.any_append]
theorem kids_nodup (t : List Node) (v : Int) : (kids t v).Nodup := by
  exact List.Pairwise.map _ (fun a b h e => h (Int.natCast_inj.mp e)) (List.Pairwise.filter _ (List.nodup_range (n := t.length)))
theorem kid_below {t : List Node} (ht : okTree t = true) {v c u : Nat} (hc : c < t.length) (hp : parOf t c = (v : Int)) (hu : u < t.length) (h : c ∈ ups t u) : ups t c = c :: ups t v ∧ v ∈ ups t u := by
  obtain ⟨g1, g2⟩ := kid_gt ht hc hp
  have e := ups_eq ht hc
  have hpn : parN t c = v := by rw [parN, hp]; rfl
  rw [if_neg g2, hpn] at e
  refine ⟨e, ups_trans ht hu h ?_⟩
  rw [e]
  exact List.mem_cons_of_mem _ (ups_self ht (by omega))
theorem kids_apart {t : List Node} (ht : okTree t = true) {v a b u : Nat} (ha : a < t.length) (hb : b < t.length) (hpa : parOf t a = (v : Int)) (hpb : parOf t b = (v : Int)) (hu : u < t.length) (h1 : a ∈ ups t u) (h2 : b ∈ ups t u) : a = b := by
  obtain ⟨p1, e1, _⟩ := ups_suffix' ht hu h1
  obtain ⟨p2, e2, _⟩ := ups_suffix' ht hu h2
  rw [(kid_below ht ha hpa hu h1).1] at e1
  rw [(kid_below ht hb hpb hu h2).1, e1] at e2
  have := List.append_inj_right' e2 (by simp)
  injection this
theorem cnt_kids {t : List Node} (ht : okTree t = true) {v : Nat} (hv : v < t.length) : ∀ k, k ≤ (kids t v).length → ∀ B : Nat → Nat, (∀ c, c < t.length → parOf t c = (v : Int) → B c ≤ 26 * cnt t c) →
    ((List.range k).map fun i => B ((kids t v).getD i 0).toNat).sum ≤ 26 * (List.range t.length).countP (underK t (kids t v) k)
  | 0, _, B, hB => by simp
  | k + 1, hk, B, hB => by
    have ih := cnt_kids ht hv k (by omega) B hB
    rw [List.range_succ, List.map_append, List.sum_append]
    have hmem : ∀ i, i ≤ k → (kids t v).getD i 0 ∈ kids t v := fun i hi => by rw [getD_of 0 _ i (by omega)]; exact List.getElem_mem _
    obtain ⟨c, hc, hcl, hcp⟩ := kid_at (hmem k (Nat.le_refl _))
    have hb := hB c hcl hcp
    have e : (List.range t.length).countP (underK t (kids t v) (k + 1)) = (List.range t.length).countP (underK t (kids t v) k) + (List.range t.length).countP (under t c) := by
      rw [countP_disj]
      · congr 1
        funext u
        rw [underK_succ, hc]; rfl
      · intro u hu hp
        have hu : u < t.length := by simpa using hu
        simp only [underK, List.any_eq_true, under, decide_eq_true_eq] at hp
        obtain ⟨i, hi, hup⟩ := hp
        have hi : i < k := by simpa using hi
        obtain ⟨d, hd, hdl, hdp⟩ := kid_at (hmem i (by omega))
        rw [hd, Int.toNat_natCast] at hup
        simp only [under, decide_eq_false_iff_not]
        intro hcu
        have hcd := kids_apart ht hcl hdl hcp hdp hu hcu hup
        have h1 := getD_of 0 (kids t v) i (by omega)
        have h2 := getD_of 0 (kids t v) k (by omega)
        exact List.pairwise_iff_getElem.1 (kids_nodup t v) i k (by omega) (by omega) hi (h1.symm.trans ((hd.trans (by rw [hcd])).trans (hc.symm.trans h2)))
    rw [e]
    simp only [List.map_cons, List.map_nil, List.sum_cons, List.sum_nil, hc, Int.toNat_natCast]
    simp only [cnt] at hb
    omega
theorem joinTo_sum (f : Nat → ByteArray) (l : List Int) : ∀ k, (joinTo f l k).size = ((List.range k).map fun i => 1 + (f (l.getD i 0).toNat).size).sum
  | 0 => rfl
  | k + 1 => by
    rw [joinTo_size, joinTo_sum f l k, List.range_succ, List.map_append, List.sum_append]
    simp
theorem named_size {t : List Node} (ht : okTree t = true) {v : Nat} (hv : v < t.length) : 0 < (nameOf t v).size ∧ (nameOf t v).size ≤ 24 := by
  have h := okTree_node ht hv
  simp only [okNode, namedB, Bool.and_eq_true, decide_eq_true_eq] at h
  exact h.2.1.2
theorem text_size {t : List Node} (ht : okTree t = true) : ∀ m v, t.length - v ≤ m → v < t.length → (textOf t v).size + 1 ≤ 26 * cnt t v
  | 0, v, h1, h2 => by omega
  | m + 1, v, h1, h2 => by
    have hk := cnt_kids ht h2 (kids t v).length (Nat.le_refl _) (fun c => 1 + (textOf t c).size) fun c hc hp => by
      have := (kid_gt ht hc hp).1
      have := text_size ht m c (by omega) hc
      omega
    rw [← joinTo_sum] at hk
    have hn := named_size ht h2
    rw [textOf_eq ht h2, ba_size, ba_size]
    have hif : (if kids t v = [] then (⟨#[]⟩ : ByteArray) else ⟨#[41]⟩).size ≤ 1 := by split <;> decide
    have hlt : (List.range t.length).countP (underK t (kids t v) (kids t v).length) + 1 ≤ cnt t v := by
      have h1 : (List.range t.length).countP (fun u => decide (u = v)) = 1 := by
        have := List.Nodup.count (a := v) (List.nodup_range (n := t.length))
        rw [if_pos (by simpa using h2)] at this
        rw [← this, List.count]
        rfl
      have h2' := countP_disj (l := List.range t.length) (p := underK t (kids t v) (kids t v).length) (q := fun u => decide (u = v)) fun u hu hp => by
        simp only [underK, List.any_eq_true, under, decide_eq_true_eq] at hp
        obtain ⟨i, hi, hup⟩ := hp
        have hi : i < (kids t v).length := by simpa using hi
        obtain ⟨c, hc, hcl, hcp⟩ := kid_at (show (kids t v).getD i 0 ∈ kids t v by rw [getD_of 0 _ i hi]; exact List.getElem_mem _)
        rw [hc, Int.toNat_natCast] at hup
        have := ups_le' ht (by simpa using hu) hup
        have := (kid_gt ht hcl hcp).1
        simp only [decide_eq_false_iff_not]
        omega
      rw [h1] at h2'
      rw [h2', cnt]
      refine List.countP_mono_left fun u hu hp => ?_
      have hu : u < t.length := by simpa using hu
      simp only [Bool.or_eq_true, decide_eq_true_eq] at hp
      simp only [under, decide_eq_true_eq]
      rcases hp with hp | rfl
      · simp only [underK, List.any_eq_true, under, decide_eq_true_eq] at hp
        obtain ⟨i, hi, hup⟩ := hp
        have hi : i < (kids t v).length := by simpa using hi
        obtain ⟨c, hc, hcl, hcp⟩ := kid_at (show (kids t v).getD i 0 ∈ kids t v by rw [getD_of 0 _ i hi]; exact List.getElem_mem _)
        rw [hc, Int.toNat_natCast] at hup
        exact (kid_below ht hcl hcp hu hup).2
      · exact ups_self ht h2
    omega
theorem cnt_le (t : List Node) (v : Nat) : cnt t v ≤ t.length := by
  have := List.countP_le_length (p := under t v) (l := List.range t.length)
  rwa [List.length_range] at this
theorem text_small {t : List Node} (ht : okTree t = true) {v : Nat} (hv : v < t.length) : 0 < (textOf t v).size ∧ (textOf t v).size ≤ 1637 := by
  have h1 := text_size ht t.length v (by omega) hv
  have h2 := cnt_le t v
  have h3 := (okTree_len ht).2
  have hn := named_size ht hv
  refine ⟨?_, by omega⟩
  rw [textOf_eq ht hv, ba_size, ba_size]
  omega

end Go.Cp
end

section
set_option linter.unusedVariables false
set_option linter.unusedSimpArgs false
set_option maxHeartbeats 4000000
set_option maxRecDepth 10000
namespace Go.Cp
open Go Go.Proofs Go.Vx

/-- what the writer holds, ahead of the first byte or behind -/
def wBx0 (t : List Node) : List (Nat × Box) := [(2001, .cells [.c (rowsS (kidsAll t))]), (2002, .cells [.zp 70, .c (.sc (.slice none 0 0))]), (2003, .cells [.fn 51 [.bp 2001 0, .bp 2002 0, .bp 2003 0, .bp 2004 0]]), (2004, .cells [.c (nodes t)])]
def wBx (t : List Node) (n : Nat) (s : ByteArray) : List (Nat × Box) := [(2001, .cells [.c (rowsS (kidsAll t))]), (2002, .cells [.bp 2002 0, .osl 2005 n]), (2003, .cells [.fn 51 [.bp 2001 0, .bp 2002 0, .bp 2003 0, .bp 2004 0]]), (2004, .cells [.c (nodes t)]), (2005, .arr 5 n (strD s))]
def wSt0 (t : List Node) (v : Nat) (s : ByteArray) : Nat → S
  | 0 => ⟨[(0, nv v), (1, .bp 2001 0), (2, .bp 2002 0), (3, .bp 2003 0), (4, .bp 2004 0), (11, .c (nums (kids t v))), (12, nv (kids t v).length), (13, nv 0)], wBx0 t⟩
  | k + 1 => ⟨[(0, nv v), (1, .bp 2001 0), (2, .bp 2002 0), (3, .bp 2003 0), (4, .bp 2004 0), (11, .c (nums (kids t v))), (12, nv (kids t v).length), (13, nv (k + 1))], wBx t 0 (s ++ joinTo (textOf t) (kids t v) (k + 1))⟩
def wSt (t : List Node) (v : Nat) (s : ByteArray) : Nat → S
  | 0 => ⟨[(0, nv v), (1, .bp 2001 0), (2, .bp 2002 0), (3, .bp 2003 0), (4, .bp 2004 0), (11, .c (nums (kids t v))), (12, nv (kids t v).length), (13, nv 0)], wBx t 0 s⟩
  | k + 1 => ⟨[(0, nv v), (1, .bp 2001 0), (2, .bp 2002 0), (3, .bp 2003 0), (4, .bp 2004 0), (11, .c (nums (kids t v))), (12, nv (kids t v).length), (13, nv (k + 1))], wBx t 1 (s ++ joinTo (textOf t) (kids t v) (k + 1))⟩

theorem min_zero : (bif decide ((1 : Int) < ((0 : Nat) : Int)) then (1 : Int) else ((0 : Nat) : Int)) = 0 := rfl
theorem min_succ (k : Nat) : (bif decide ((1 : Int) < ((k + 1 : Nat) : Int)) then (1 : Int) else ((k + 1 : Nat) : Int)) = 1 := by
  cases h : decide ((1 : Int) < ((k + 1 : Nat) : Int)) with
  | true => rfl
  | false =>
    have h : ¬ (1 : Int) < ((k + 1 : Nat) : Int) := by simpa using h
    show ((k + 1 : Nat) : Int) = 1
    omega
theorem pos_zero : decide ((0 : Int) < ((0 : Nat) : Int)) = false := rfl
theorem pos_succ (k : Nat) : decide ((0 : Int) < ((k + 1 : Nat) : Int)) = true := decide_eq_true (by omega)
theorem sep_size : (ByteArray.mk #[40, 44]).size = 2 := rfl
theorem sep_0 : byteAt (ByteArray.mk #[40, 44]) 0 = 40 := rfl
theorem sep_1 : byteAt (ByteArray.mk #[40, 44]) 1 = 44 := rfl
theorem int_one_nat : (1 : Int).toNat = 1 := rfl
theorem wb_used (c : Int) (b : UInt8) (s : ByteArray) (hc : c = b.toNat) (hn : s.size ≤ 1000000) : OkM Try.prog E 52 [.bp 2001 0, .c (.sc (.int .u8 c))] [(2001, .cells [.bp 2001 0, .osl 2002 0]), (2002, .arr 5 0 (strD s))] (.c (.sc .nilIface)) [(2001, .cells [.bp 2001 0, .osl 2002 1]), (2002, .arr 5 1 (strD (s ++ ⟨#[b]⟩)))] := by
  have := wbyte_used c (strD s) (by rw [strD_len]; exact hn)
  rw [strD_app, strD_one, ← hc]
  exact this
theorem wb_fresh (c : Int) (b : UInt8) (hc : c = b.toNat) : OkM Try.prog E 52 [.bp 2001 0, .c (.sc (.int .u8 c))] [(2001, .cells [.zp 70, .c (.sc (.slice none 0 0))])] (.c (.sc .nilIface)) [(2001, .cells [.bp 2001 0, .osl 2002 0]), (2002, .arr 5 0 (strD ⟨#[b]⟩))] := by
  have := wbyte_fresh c
  rw [strD_one, ← hc]
  exact this
theorem ws_used (x s : ByteArray) (hx : x.size ≤ 1000000) (hn : s.size ≤ 1000000) : OkM Try.prog E 47 [.bp 2001 0, sv x] [(2001, .cells [.bp 2001 0, .osl 2002 0]), (2002, .arr 5 0 (strD s))] (.tp [nv x.size, .c (.sc .nilIface)]) [(2001, .cells [.bp 2001 0, .osl 2002 1]), (2002, .arr 5 1 (strD (s ++ x)))] := by
  have := wstr_used x (strD s) hx (by rw [strD_len]; exact hn)
  rw [strD_app]
  exact this
theorem write_used (t : List Node) (ht : okTree t = true) : ∀ m v, t.length - v ≤ m → v < t.length → ∀ s : ByteArray, s.size + (textOf t v).size ≤ 100000 →
    OkM Try.prog E 51 [nv v, .bp 2001 0, .bp 2002 0, .bp 2003 0, .bp 2004 0] (wBx t 0 s) (.tp []) (wBx t 1 (s ++ textOf t v))
  | 0, v, h1, hv, s, hs => by omega
  | m + 1, v, h1, hv, s, hs => by
    have hkal : (kidsAll t).length = t.length := kidsAt_len t _
    have hg : (kidsAll t).getD v [] = kids t v := getD_kidsAt hv
    have hte := textOf_eq ht hv
    have hkl : (kids t v).length ≤ t.length := kidsTo_len t (v : Int) t.length
    have h63 := (okTree_len ht).2
    have hnm := named_size ht hv
    have hjm := joinTo_mono (textOf t) (kids t v) (kids t v).length
    have hjs := joinTo_size (textOf t) (kids t v)
    have hjd : ∀ k, joinTo (textOf t) (kids t v) (k + 1) = joinTo (textOf t) (kids t v) k ++ ((if k = 0 then ⟨#[40]⟩ else ⟨#[44]⟩) ++ textOf t ((kids t v).getD k 0).toNat) := fun k => rfl
    have htsz : (textOf t v).size = (joinTo (textOf t) (kids t v) (kids t v).length).size + ((if kids t v = [] then (⟨#[]⟩ : ByteArray) else ⟨#[41]⟩).size + (nameOf t v).size) := by rw [hte, ba_size, ba_size]
    refine okM_of_vc (L := []) (ts := []) envOK mixed Try.func51 rfl (by kernel_rfl) rfl (by decide) (by kernel_rfl) rfl fun hl hlb => ?_
    have hnd : (t.getD v Node.zero).name = nameOf t v := rfl
    simp only [Try.f51, wBx, getD_rowS _ v (show v < (kidsAll t).length by omega), hg, rowS_def, nums, rowsS, nodes, zv, nv, bv, sv, VZ, BEq.rfl, seval, -Int.reduceNatCast', kAgg, scD, List.all_cons, List.all_nil]
    refine ⟨⟨Int.natCast_nonneg v, by omega⟩, ?_⟩
    refine LoopVC.mk (Y := Nat) (fun k => k ≤ (kids t v).length) (wSt t v s) (fun k => (kids t v).length - k) ⟨0, Enter.mk [] [] [] ?_, by omega⟩ ?_
    · simp only [wSt, wBx, nums, rowsS, nodes, zv, nv, bv, sv, VZ, BEq.rfl, seval, -Int.reduceNatCast', kAgg, scD, List.all_cons, List.all_nil]
      try rfl
    intro k hk
    cases k with
    | zero =>
      have e0 : decide (((0 : Nat) : Int) < ((kids t v).length : Int)) = decide (0 < (kids t v).length) := lt_nat 0 _
      simp only [wSt, wBx0, wBx, e0, nums, rowsS, nodes, zv, nv, bv, sv, VZ, BEq.rfl, seval, -Int.reduceNatCast', kAgg, scD, List.all_cons, List.all_nil]
      refine guardB.mk (fun h => ?_) (fun h => ?_)
      · have hk' : 0 < (kids t v).length := by simpa using h
        clear h
        obtain ⟨u, hu, hul, hup⟩ := kid_at (show (kids t v).getD 0 0 ∈ kids t v by rw [getD_of 0 _ 0 hk']; exact List.getElem_mem _)
        have hgt := kid_gt ht hul hup
        have hd := hjd 0
        have hz := hjs 0
        have hm := hjm (0 + 1) (by omega)
        rw [hu, Int.toNat_natCast] at hd hz
        rw [if_pos rfl] at hd
        have hj0 : joinTo (textOf t) (kids t v) 0 = ⟨#[]⟩ := rfl
        have hj0s : (joinTo (textOf t) (kids t v) 0).size = 0 := rfl
        rw [hj0, ba_nil] at hd
        have hn1 : (s ++ (⟨#[40]⟩ : ByteArray)).size = s.size + 1 := ba_size _ _
        have hfin : (s ++ (⟨#[40]⟩ : ByteArray)) ++ textOf t u = s ++ joinTo (textOf t) (kids t v) (0 + 1) := by rw [hd, ba_assoc]
        simp only [getD_num (kids t v) 0 hk', hu, num_def, sep_size, min_zero, sep_0, nums, rowsS, nodes, zv, nv, bv, sv, VZ, BEq.rfl, seval, -Int.reduceNatCast', kAgg, scD, List.all_cons, List.all_nil]
        refine ⟨⟨Int.natCast_nonneg _, hk'⟩, ?_⟩
        refine CallMVC.mk [] [(2001, 2002), (2002, 2005)] (wb_used 40 40 s rfl (by omega)) ?_ ?_
        · simp only [nums, rowsS, nodes, zv, nv, bv, sv, VZ, BEq.rfl, seval, -Int.reduceNatCast', kAgg, scD, List.all_cons, List.all_nil]
        simp only [nums, rowsS, nodes, zv, nv, bv, sv, VZ, BEq.rfl, seval, -Int.reduceNatCast', kAgg, scD, List.all_cons, List.all_nil]
        refine CallMVC.mk [] [] (write_used t ht m u (by omega) hul (s ++ (⟨#[40]⟩ : ByteArray)) (by omega)) ?_ ?_
        · simp only [wBx, nums, rowsS, nodes, zv, nv, bv, sv, VZ, BEq.rfl, seval, -Int.reduceNatCast', kAgg, scD, List.all_cons, List.all_nil]
        simp only [wBx, wrap_nat (k := 0) (by omega), hfin, nums, rowsS, nodes, zv, nv, bv, sv, VZ, BEq.rfl, seval, -Int.reduceNatCast', kAgg, scD, List.all_cons, List.all_nil]
        refine ⟨0 + 1, Enter.mk [] [] [] ?_, by omega, by show (kids t v).length - (0 + 1) < (kids t v).length - 0; omega⟩
        simp only [wSt, wBx, nums, rowsS, nodes, zv, nv, bv, sv, VZ, BEq.rfl, seval, -Int.reduceNatCast', kAgg, scD, List.all_cons, List.all_nil]
        try rfl
      · have hk' : (kids t v).length = 0 := by
          have : ¬ 0 < (kids t v).length := by simpa using h
          omega
        clear h
        have hke : kids t v = [] := List.length_eq_zero_iff.1 hk'
        have hfin : s ++ textOf t v = s ++ nameOf t v := by rw [hte, hke, if_pos rfl]; show s ++ ((⟨#[]⟩ : ByteArray) ++ ((⟨#[]⟩ : ByteArray) ++ nameOf t v)) = _; rw [ba_nil, ba_nil]
        simp only [getD_rowS _ v (show v < (kidsAll t).length by omega), hg, rowS_def, hk', hfin, e0, pos_zero, getD_node t v hv, node_def, hnd, nums, rowsS, nodes, zv, nv, bv, sv, VZ, BEq.rfl, seval, -Int.reduceNatCast', kAgg, scD, List.all_cons, List.all_nil]
        refine ⟨⟨Int.natCast_nonneg v, by omega⟩, ⟨Int.natCast_nonneg v, hv⟩, ?_⟩
        refine CallMVC.mk [] [(2001, 2002), (2002, 2005)] (ws_used (nameOf t v) s (by omega) (by omega)) ?_ ?_
        · simp only [nums, rowsS, nodes, zv, nv, bv, sv, VZ, BEq.rfl, seval, -Int.reduceNatCast', kAgg, scD, List.all_cons, List.all_nil]
        simp only [nums, rowsS, nodes, zv, nv, bv, sv, VZ, BEq.rfl, seval, -Int.reduceNatCast', kAgg, scD, List.all_cons, List.all_nil]
        refine Enter.mk [] [] [] ?_
        simp only [nums, rowsS, nodes, zv, nv, bv, sv, VZ, BEq.rfl, seval, -Int.reduceNatCast', kAgg, scD, List.all_cons, List.all_nil]
    | succ k =>
      simp only [wSt, wBx0, wBx, lt_nat, nums, rowsS, nodes, zv, nv, bv, sv, VZ, BEq.rfl, seval, -Int.reduceNatCast', kAgg, scD, List.all_cons, List.all_nil]
      refine guardB.mk (fun h => ?_) (fun h => ?_)
      · have hk' : k + 1 < (kids t v).length := by simpa using h
        clear h
        obtain ⟨u, hu, hul, hup⟩ := kid_at (show (kids t v).getD (k + 1) 0 ∈ kids t v by rw [getD_of 0 _ (k + 1) hk']; exact List.getElem_mem _)
        have hgt := kid_gt ht hul hup
        have hd := hjd (k + 1)
        have hz := hjs (k + 1)
        have hm := hjm ((k + 1) + 1) (by omega)
        rw [hu, Int.toNat_natCast] at hd hz
        rw [if_neg (Nat.succ_ne_zero k)] at hd
        have hcs : (s ++ joinTo (textOf t) (kids t v) (k + 1)).size = s.size + (joinTo (textOf t) (kids t v) (k + 1)).size := ba_size _ _
        have hn1 : ((s ++ joinTo (textOf t) (kids t v) (k + 1)) ++ (⟨#[44]⟩ : ByteArray)).size = (s ++ joinTo (textOf t) (kids t v) (k + 1)).size + 1 := ba_size _ _
        have hfin : ((s ++ joinTo (textOf t) (kids t v) (k + 1)) ++ (⟨#[44]⟩ : ByteArray)) ++ textOf t u = s ++ joinTo (textOf t) (kids t v) ((k + 1) + 1) := by rw [hd, ba_assoc, ba_assoc]
        simp only [getD_num (kids t v) (k + 1) hk', hu, num_def, sep_size, min_succ, int_one_nat, sep_1, nums, rowsS, nodes, zv, nv, bv, sv, VZ, BEq.rfl, seval, -Int.reduceNatCast', kAgg, scD, List.all_cons, List.all_nil]
        refine ⟨⟨Int.natCast_nonneg _, hk'⟩, ?_⟩
        refine CallMVC.mk [] [(2001, 2002), (2002, 2005)] (wb_used 44 44 (s ++ joinTo (textOf t) (kids t v) (k + 1)) rfl (by omega)) ?_ ?_
        · simp only [nums, rowsS, nodes, zv, nv, bv, sv, VZ, BEq.rfl, seval, -Int.reduceNatCast', kAgg, scD, List.all_cons, List.all_nil]
        simp only [nums, rowsS, nodes, zv, nv, bv, sv, VZ, BEq.rfl, seval, -Int.reduceNatCast', kAgg, scD, List.all_cons, List.all_nil]
        refine CallMVC.mk [] [] (write_used t ht m u (by omega) hul ((s ++ joinTo (textOf t) (kids t v) (k + 1)) ++ (⟨#[44]⟩ : ByteArray)) (by omega)) ?_ ?_
        · simp only [wBx, nums, rowsS, nodes, zv, nv, bv, sv, VZ, BEq.rfl, seval, -Int.reduceNatCast', kAgg, scD, List.all_cons, List.all_nil]
        simp only [wBx, wrap_nat (k := (k + 1)) (by omega), hfin, nums, rowsS, nodes, zv, nv, bv, sv, VZ, BEq.rfl, seval, -Int.reduceNatCast', kAgg, scD, List.all_cons, List.all_nil]
        refine ⟨(k + 1) + 1, Enter.mk [] [] [] ?_, by omega, by show (kids t v).length - ((k + 1) + 1) < (kids t v).length - (k + 1); omega⟩
        simp only [wSt, wBx, nums, rowsS, nodes, zv, nv, bv, sv, VZ, BEq.rfl, seval, -Int.reduceNatCast', kAgg, scD, List.all_cons, List.all_nil]
      · have hk' : (kids t v).length = k + 1 := by
          have : ¬ k + 1 < (kids t v).length := by simpa using h
          omega
        clear h
        have hke : kids t v ≠ [] := fun e => by rw [e] at hk'; cases hk'
        have hfin : s ++ textOf t v = s ++ joinTo (textOf t) (kids t v) (k + 1) ++ ⟨#[41]⟩ ++ nameOf t v := by rw [hte, if_neg hke, hk', ba_assoc, ba_assoc]
        simp only [getD_rowS _ v (show v < (kidsAll t).length by omega), hg, rowS_def, hk', hfin, pos_succ, getD_node t v hv, node_def, hnd, nums, rowsS, nodes, zv, nv, bv, sv, VZ, BEq.rfl, seval, -Int.reduceNatCast', kAgg, scD, List.all_cons, List.all_nil]
        refine ⟨⟨Int.natCast_nonneg v, by omega⟩, ?_⟩
        have hcs : (s ++ joinTo (textOf t) (kids t v) (k + 1)).size = s.size + (joinTo (textOf t) (kids t v) (k + 1)).size := ba_size _ _
        have hn1 : (s ++ joinTo (textOf t) (kids t v) (k + 1) ++ (⟨#[41]⟩ : ByteArray)).size = (s ++ joinTo (textOf t) (kids t v) (k + 1)).size + 1 := ba_size _ _
        rw [hk'] at htsz
        refine CallMVC.mk [] [(2001, 2002), (2002, 2005)] (wb_used 41 41 (s ++ joinTo (textOf t) (kids t v) (k + 1)) rfl (by omega)) ?_ ?_
        · simp only [nums, rowsS, nodes, zv, nv, bv, sv, VZ, BEq.rfl, seval, -Int.reduceNatCast', kAgg, scD, List.all_cons, List.all_nil]
        simp only [getD_node t v hv, node_def, hnd, nums, rowsS, nodes, zv, nv, bv, sv, VZ, BEq.rfl, seval, -Int.reduceNatCast', kAgg, scD, List.all_cons, List.all_nil]
        refine ⟨⟨Int.natCast_nonneg v, hv⟩, ?_⟩
        refine CallMVC.mk [] [(2001, 2002), (2002, 2005)] (ws_used (nameOf t v) (s ++ joinTo (textOf t) (kids t v) (k + 1) ++ (⟨#[41]⟩ : ByteArray)) (by omega) (by omega)) ?_ ?_
        · simp only [nums, rowsS, nodes, zv, nv, bv, sv, VZ, BEq.rfl, seval, -Int.reduceNatCast', kAgg, scD, List.all_cons, List.all_nil]
        simp only [nums, rowsS, nodes, zv, nv, bv, sv, VZ, BEq.rfl, seval, -Int.reduceNatCast', kAgg, scD, List.all_cons, List.all_nil]
        refine Enter.mk [] [] [] ?_
        simp only [nums, rowsS, nodes, zv, nv, bv, sv, VZ, BEq.rfl, seval, -Int.reduceNatCast', kAgg, scD, List.all_cons, List.all_nil]

theorem write_fresh (t : List Node) (ht : okTree t = true) (v : Nat) (hv : v < t.length) (s : ByteArray) (hs0 : s = ⟨#[]⟩) (hs : s.size + (textOf t v).size ≤ 100000) :
    OkM Try.prog E 51 [nv v, .bp 2001 0, .bp 2002 0, .bp 2003 0, .bp 2004 0] (wBx0 t) (.tp []) (wBx t 0 (s ++ textOf t v)) := by
    have hsz0 : s.size = 0 := by rw [hs0]; rfl
    have hnil : ∀ x : ByteArray, s ++ x = x := fun x => by rw [hs0]; exact ba_nil x
    have hkal : (kidsAll t).length = t.length := kidsAt_len t _
    have hg : (kidsAll t).getD v [] = kids t v := getD_kidsAt hv
    have hte := textOf_eq ht hv
    have hkl : (kids t v).length ≤ t.length := kidsTo_len t (v : Int) t.length
    have h63 := (okTree_len ht).2
    have hnm := named_size ht hv
    have hjm := joinTo_mono (textOf t) (kids t v) (kids t v).length
    have hjs := joinTo_size (textOf t) (kids t v)
    have hjd : ∀ k, joinTo (textOf t) (kids t v) (k + 1) = joinTo (textOf t) (kids t v) k ++ ((if k = 0 then ⟨#[40]⟩ else ⟨#[44]⟩) ++ textOf t ((kids t v).getD k 0).toNat) := fun k => rfl
    have htsz : (textOf t v).size = (joinTo (textOf t) (kids t v) (kids t v).length).size + ((if kids t v = [] then (⟨#[]⟩ : ByteArray) else ⟨#[41]⟩).size + (nameOf t v).size) := by rw [hte, ba_size, ba_size]
    refine okM_of_vc (L := []) (ts := []) envOK mixed Try.func51 rfl (by kernel_rfl) rfl (by decide) (by kernel_rfl) rfl fun hl hlb => ?_
    have hnd : (t.getD v Node.zero).name = nameOf t v := rfl
    simp only [Try.f51, wBx0, getD_rowS _ v (show v < (kidsAll t).length by omega), hg, rowS_def, nums, rowsS, nodes, zv, nv, bv, sv, VZ, BEq.rfl, seval, -Int.reduceNatCast', kAgg, scD, List.all_cons, List.all_nil]
    refine ⟨⟨Int.natCast_nonneg v, by omega⟩, ?_⟩
    refine LoopVC.mk (Y := Nat) (fun k => k ≤ (kids t v).length) (wSt0 t v s) (fun k => (kids t v).length - k) ⟨0, Enter.mk [] [] [] ?_, by omega⟩ ?_
    · simp only [wSt0, wBx0, nums, rowsS, nodes, zv, nv, bv, sv, VZ, BEq.rfl, seval, -Int.reduceNatCast', kAgg, scD, List.all_cons, List.all_nil]
      try rfl
    intro k hk
    cases k with
    | zero =>
      have e0 : decide (((0 : Nat) : Int) < ((kids t v).length : Int)) = decide (0 < (kids t v).length) := lt_nat 0 _
      simp only [wSt0, wBx0, wBx, e0, nums, rowsS, nodes, zv, nv, bv, sv, VZ, BEq.rfl, seval, -Int.reduceNatCast', kAgg, scD, List.all_cons, List.all_nil]
      refine guardB.mk (fun h => ?_) (fun h => ?_)
      · have hk' : 0 < (kids t v).length := by simpa using h
        clear h
        obtain ⟨u, hu, hul, hup⟩ := kid_at (show (kids t v).getD 0 0 ∈ kids t v by rw [getD_of 0 _ 0 hk']; exact List.getElem_mem _)
        have hgt := kid_gt ht hul hup
        have hd := hjd 0
        have hz := hjs 0
        have hm := hjm (0 + 1) (by omega)
        rw [hu, Int.toNat_natCast] at hd hz
        rw [if_pos rfl] at hd
        have hj0 : joinTo (textOf t) (kids t v) 0 = ⟨#[]⟩ := rfl
        have hj0s : (joinTo (textOf t) (kids t v) 0).size = 0 := rfl
        rw [hj0, ba_nil] at hd
        have hn1 : (s ++ (⟨#[40]⟩ : ByteArray)).size = s.size + 1 := ba_size _ _
        have hfin : (s ++ (⟨#[40]⟩ : ByteArray)) ++ textOf t u = s ++ joinTo (textOf t) (kids t v) (0 + 1) := by rw [hd, ba_assoc]
        simp only [getD_num (kids t v) 0 hk', hu, num_def, sep_size, min_zero, sep_0, nums, rowsS, nodes, zv, nv, bv, sv, VZ, BEq.rfl, seval, -Int.reduceNatCast', kAgg, scD, List.all_cons, List.all_nil]
        refine ⟨⟨Int.natCast_nonneg _, hk'⟩, ?_⟩
        refine CallMVC.mk [] [(2001, 2002), (2002, 2005)] (wb_fresh 40 40 rfl) ?_ ?_
        · simp only [nums, rowsS, nodes, zv, nv, bv, sv, VZ, BEq.rfl, seval, -Int.reduceNatCast', kAgg, scD, List.all_cons, List.all_nil]
        simp only [nums, rowsS, nodes, zv, nv, bv, sv, VZ, BEq.rfl, seval, -Int.reduceNatCast', kAgg, scD, List.all_cons, List.all_nil]
        rw [hnil] at hn1 hfin
        refine CallMVC.mk [] [] (write_used t ht t.length u (by omega) hul (⟨#[40]⟩ : ByteArray) (by omega)) ?_ ?_
        · simp only [wBx, nums, rowsS, nodes, zv, nv, bv, sv, VZ, BEq.rfl, seval, -Int.reduceNatCast', kAgg, scD, List.all_cons, List.all_nil]
        simp only [wBx, wrap_nat (k := 0) (by omega), hfin, nums, rowsS, nodes, zv, nv, bv, sv, VZ, BEq.rfl, seval, -Int.reduceNatCast', kAgg, scD, List.all_cons, List.all_nil]
        refine ⟨0 + 1, Enter.mk [] [] [] ?_, by omega, by show (kids t v).length - (0 + 1) < (kids t v).length - 0; omega⟩
        simp only [wSt0, wBx, nums, rowsS, nodes, zv, nv, bv, sv, VZ, BEq.rfl, seval, -Int.reduceNatCast', kAgg, scD, List.all_cons, List.all_nil]
        try rfl
      · have hk' : (kids t v).length = 0 := by
          have : ¬ 0 < (kids t v).length := by simpa using h
          omega
        clear h
        have hke : kids t v = [] := List.length_eq_zero_iff.1 hk'
        have hfin : s ++ textOf t v = s ++ nameOf t v := by rw [hte, hke, if_pos rfl]; show s ++ ((⟨#[]⟩ : ByteArray) ++ ((⟨#[]⟩ : ByteArray) ++ nameOf t v)) = _; rw [ba_nil, ba_nil]
        simp only [getD_rowS _ v (show v < (kidsAll t).length by omega), hg, rowS_def, hk', hfin, e0, pos_zero, getD_node t v hv, node_def, hnd, nums, rowsS, nodes, zv, nv, bv, sv, VZ, BEq.rfl, seval, -Int.reduceNatCast', kAgg, scD, List.all_cons, List.all_nil]
        refine ⟨⟨Int.natCast_nonneg v, by omega⟩, ⟨Int.natCast_nonneg v, hv⟩, ?_⟩
        refine CallMVC.mk [] [(2001, 2002), (2002, 2005)] (wstr_fresh (nameOf t v) (by omega)) ?_ ?_
        · simp only [nums, rowsS, nodes, zv, nv, bv, sv, VZ, BEq.rfl, seval, -Int.reduceNatCast', kAgg, scD, List.all_cons, List.all_nil]
        simp only [nums, rowsS, nodes, zv, nv, bv, sv, VZ, BEq.rfl, seval, -Int.reduceNatCast', kAgg, scD, List.all_cons, List.all_nil]
        refine Enter.mk [] [] [] ?_
        simp only [hnil, nums, rowsS, nodes, zv, nv, bv, sv, VZ, BEq.rfl, seval, -Int.reduceNatCast', kAgg, scD, List.all_cons, List.all_nil]
    | succ k =>
      simp only [wSt0, wBx0, wBx, lt_nat, nums, rowsS, nodes, zv, nv, bv, sv, VZ, BEq.rfl, seval, -Int.reduceNatCast', kAgg, scD, List.all_cons, List.all_nil]
      refine guardB.mk (fun h => ?_) (fun h => ?_)
      · have hk' : k + 1 < (kids t v).length := by simpa using h
        clear h
        obtain ⟨u, hu, hul, hup⟩ := kid_at (show (kids t v).getD (k + 1) 0 ∈ kids t v by rw [getD_of 0 _ (k + 1) hk']; exact List.getElem_mem _)
        have hgt := kid_gt ht hul hup
        have hd := hjd (k + 1)
        have hz := hjs (k + 1)
        have hm := hjm ((k + 1) + 1) (by omega)
        rw [hu, Int.toNat_natCast] at hd hz
        rw [if_neg (Nat.succ_ne_zero k)] at hd
        have hcs : (s ++ joinTo (textOf t) (kids t v) (k + 1)).size = s.size + (joinTo (textOf t) (kids t v) (k + 1)).size := ba_size _ _
        have hn1 : ((s ++ joinTo (textOf t) (kids t v) (k + 1)) ++ (⟨#[44]⟩ : ByteArray)).size = (s ++ joinTo (textOf t) (kids t v) (k + 1)).size + 1 := ba_size _ _
        have hfin : ((s ++ joinTo (textOf t) (kids t v) (k + 1)) ++ (⟨#[44]⟩ : ByteArray)) ++ textOf t u = s ++ joinTo (textOf t) (kids t v) ((k + 1) + 1) := by rw [hd, ba_assoc, ba_assoc]
        simp only [getD_num (kids t v) (k + 1) hk', hu, num_def, sep_size, min_succ, int_one_nat, sep_1, nums, rowsS, nodes, zv, nv, bv, sv, VZ, BEq.rfl, seval, -Int.reduceNatCast', kAgg, scD, List.all_cons, List.all_nil]
        refine ⟨⟨Int.natCast_nonneg _, hk'⟩, ?_⟩
        refine CallMVC.mk [] [(2001, 2002), (2002, 2005)] (wb_used 44 44 (s ++ joinTo (textOf t) (kids t v) (k + 1)) rfl (by omega)) ?_ ?_
        · simp only [nums, rowsS, nodes, zv, nv, bv, sv, VZ, BEq.rfl, seval, -Int.reduceNatCast', kAgg, scD, List.all_cons, List.all_nil]
        simp only [nums, rowsS, nodes, zv, nv, bv, sv, VZ, BEq.rfl, seval, -Int.reduceNatCast', kAgg, scD, List.all_cons, List.all_nil]
        refine CallMVC.mk [] [] (write_used t ht t.length u (by omega) hul ((s ++ joinTo (textOf t) (kids t v) (k + 1)) ++ (⟨#[44]⟩ : ByteArray)) (by omega)) ?_ ?_
        · simp only [wBx, nums, rowsS, nodes, zv, nv, bv, sv, VZ, BEq.rfl, seval, -Int.reduceNatCast', kAgg, scD, List.all_cons, List.all_nil]
        simp only [wBx, wrap_nat (k := (k + 1)) (by omega), hfin, nums, rowsS, nodes, zv, nv, bv, sv, VZ, BEq.rfl, seval, -Int.reduceNatCast', kAgg, scD, List.all_cons, List.all_nil]
        refine ⟨(k + 1) + 1, Enter.mk [] [] [] ?_, by omega, by show (kids t v).length - ((k + 1) + 1) < (kids t v).length - (k + 1); omega⟩
        simp only [wSt0, wBx, nums, rowsS, nodes, zv, nv, bv, sv, VZ, BEq.rfl, seval, -Int.reduceNatCast', kAgg, scD, List.all_cons, List.all_nil]
      · have hk' : (kids t v).length = k + 1 := by
          have : ¬ k + 1 < (kids t v).length := by simpa using h
          omega
        clear h
        have hke : kids t v ≠ [] := fun e => by rw [e] at hk'; cases hk'
        have hfin : s ++ textOf t v = s ++ joinTo (textOf t) (kids t v) (k + 1) ++ ⟨#[41]⟩ ++ nameOf t v := by rw [hte, if_neg hke, hk', ba_assoc, ba_assoc]
        simp only [getD_rowS _ v (show v < (kidsAll t).length by omega), hg, rowS_def, hk', hfin, pos_succ, getD_node t v hv, node_def, hnd, nums, rowsS, nodes, zv, nv, bv, sv, VZ, BEq.rfl, seval, -Int.reduceNatCast', kAgg, scD, List.all_cons, List.all_nil]
        refine ⟨⟨Int.natCast_nonneg v, by omega⟩, ?_⟩
        have hcs : (s ++ joinTo (textOf t) (kids t v) (k + 1)).size = s.size + (joinTo (textOf t) (kids t v) (k + 1)).size := ba_size _ _
        have hn1 : (s ++ joinTo (textOf t) (kids t v) (k + 1) ++ (⟨#[41]⟩ : ByteArray)).size = (s ++ joinTo (textOf t) (kids t v) (k + 1)).size + 1 := ba_size _ _
        rw [hk'] at htsz
        refine CallMVC.mk [] [(2001, 2002), (2002, 2005)] (wb_used 41 41 (s ++ joinTo (textOf t) (kids t v) (k + 1)) rfl (by omega)) ?_ ?_
        · simp only [nums, rowsS, nodes, zv, nv, bv, sv, VZ, BEq.rfl, seval, -Int.reduceNatCast', kAgg, scD, List.all_cons, List.all_nil]
        simp only [getD_node t v hv, node_def, hnd, nums, rowsS, nodes, zv, nv, bv, sv, VZ, BEq.rfl, seval, -Int.reduceNatCast', kAgg, scD, List.all_cons, List.all_nil]
        refine ⟨⟨Int.natCast_nonneg v, hv⟩, ?_⟩
        refine CallMVC.mk [] [(2001, 2002), (2002, 2005)] (ws_used (nameOf t v) (s ++ joinTo (textOf t) (kids t v) (k + 1) ++ (⟨#[41]⟩ : ByteArray)) (by omega) (by omega)) ?_ ?_
        · simp only [nums, rowsS, nodes, zv, nv, bv, sv, VZ, BEq.rfl, seval, -Int.reduceNatCast', kAgg, scD, List.all_cons, List.all_nil]
        simp only [nums, rowsS, nodes, zv, nv, bv, sv, VZ, BEq.rfl, seval, -Int.reduceNatCast', kAgg, scD, List.all_cons, List.all_nil]
        refine Enter.mk [] [] [] ?_
        simp only [nums, rowsS, nodes, zv, nv, bv, sv, VZ, BEq.rfl, seval, -Int.reduceNatCast', kAgg, scD, List.all_cons, List.all_nil]

end Go.Cp
end
