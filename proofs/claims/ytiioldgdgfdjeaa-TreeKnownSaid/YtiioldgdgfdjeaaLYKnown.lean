/-
  Tree: the law TreeKnown. Conditions: none.
-/
import Derived.Test.YtiioldgdgfdjeaaMS
set_option linter.unusedVariables false
set_option linter.unusedSimpArgs false
set_option maxHeartbeats 32000000
set_option maxRecDepth 10000
namespace Go.Cp
open Go Go.Proofs Go.Vx

theorem rep64 : List.replicate (Int.toNat 64) [D.sc (.int .i64 0), D.sc (.string ⟨#[]⟩)] = (chTo 0).map Node.enc := by
  rw [chTo_zero, List.map_replicate]; rfl
theorem take63 : (chainC.map Node.enc).take (Int.toNat 63) = fullC.map Node.enc := by
  rw [← List.map_take]
  exact congrArg _ full_take
theorem rep64' : List.replicate 64 [D.sc (.int .i64 0), D.sc (.string ⟨#[]⟩)] = (chTo 0).map Node.enc := rep64
theorem take63' : (chainC.map Node.enc).take 63 = fullC.map Node.enc := take63
theorem rep_size (b : UInt8) (c : Nat) : (repB ⟨#[b]⟩ c).size = c := by rw [← bl_len, repB_bl, List.length_replicate]
theorem enc_put (k : Nat) (h : k < 64) : ((chTo k).map Node.enc).set k [D.sc (.int .i64 ((k : Int) - 1)), D.sc (.string (nameC k))] = (chTo (k + 1)).map Node.enc := by
  rw [← chTo_step h, List.map_set]; rfl
theorem allLen_any (l : List Node) : AllLen 2 (l.map Node.enc) := fun y hy => by
  obtain ⟨c, _, rfl⟩ := List.mem_map.1 hy
  try rfl
theorem small_okT {t : List Node} (ht : okTree t = true) : Small t := fun k hk => by
  have h := (named_size ht hk).2
  show (nameOf t k).size ≤ _
  omega
theorem chk_okN {t : List Node} (h : okTree t = true) {a : Nat} (ha : a < t.length) : chkE t [(a : Int)] = 0 := by
  rw [chk_sing, if_pos h, inB, decide_eq_true (show (a : Int) < (t.length : Int) by omega), decide_eq_true (show (0 : Int) ≤ (a : Int) by omega)]; rfl
theorem chain_small : Small chainC := fun k hk => by
  rw [chain_len] at hk
  rw [chain_at hk]
  have := nameC_size k
  show (nameC k).size ≤ _
  omega
theorem full_chk : chkE fullC [62] = 0 := chk_okN full_ok (a := 62) (by rw [full_len]; decide)
theorem known_law : Ok Try.prog E 3 [] (bv true) := by
  refine ok_of_vc (L := [(12, [(41, 47), (42, 47)]), (26, [(2, 5), (2, 6), (2, 7)])]) (ts := [0]) envOK mixed Try.func3 rfl (by kernel_rfl) rfl (by kernel_rfl) rfl fun hl => ?_
  simp only [Try.f3, nums, rowsS, nodes, zv, nv, bv, sv, List.append_eq, Option.isSome_some, List.getD_cons_zero, List.getD_cons_succ, VZ, BEq.rfl, seval, -Int.reduceNatCast', kAgg, scD, List.all_cons, List.all_nil]
  refine CallX.mk example_ok rfl ?_
  simp only [nums, rowsS, nodes, zv, nv, bv, sv, List.append_eq, Option.isSome_some, List.getD_cons_zero, List.getD_cons_succ, VZ, BEq.rfl, seval, -Int.reduceNatCast', kAgg, scD, List.all_cons, List.all_nil]
  try refine ⟨by decide, ?_⟩
  refine LoopVC.cut (Y := Nat) (Z := Unit) 0 (fun k => k ≤ 64) (fun k => ⟨[(1, .c (nodes exT)), (2, .osl 60 0), (3, nv k)], [(60, .arr 26 0 ((chTo k).map Node.enc))]⟩) (fun k => 64 - k) (fun _ => True) (fun _ => ⟨[(1, .c (nodes exT)), (2, .c (nodes chainC))], []⟩) ⟨0, Enter.mk [] [] [] ?_, by omega⟩ ?_ ?_
  · simp only [nums, rowsS, nodes, zv, nv, bv, sv, List.append_eq, Option.isSome_some, List.getD_cons_zero, List.getD_cons_succ, VZ, BEq.rfl, seval, -Int.reduceNatCast', kAgg, scD, List.all_cons, List.all_nil]
    first | exact ⟨⟨rep64, rfl⟩, rep64⟩ | exact ⟨rep64', rep64'⟩
  · intro k hk
    simp only [chTo_len, nums, rowsS, nodes, zv, nv, bv, sv, List.append_eq, Option.isSome_some, List.getD_cons_zero, List.getD_cons_succ, VZ, BEq.rfl, seval, -Int.reduceNatCast', kAgg, scD, List.all_cons, List.all_nil]
    refine guardB.mk (fun h => ?_) (fun h => ?_)
    · have hk' : k < 64 := by
        have : (k : Int) < 64 := by simpa using h
        omega
      clear h
      have etm : (k : Int).tmod 8 = ((k % 8 : Nat) : Int) := (Int.ofNat_tmod k 8).symm
      have etd : IntKind.i64.wrap ((k : Int).tdiv 8) = ((k / 8 : Nat) : Int) := by
        have : (k : Int).tdiv 8 = ((k / 8 : Nat) : Int) := (Int.ofNat_tdiv k 8).symm
        rw [this, wrap_in (by omega) (by omega)]
      have w1 : IntKind.i64.wrap ((k : Int) - 1) = (k : Int) - 1 := wrap_in (by omega) (by omega)
      have z1 : (ByteArray.mk #[111]).size = 1 := rfl
      have z2 : (ByteArray.mk #[120]).size = 1 := rfl
      have z3 : (ByteArray.mk #[110]).size = 1 := rfl
      have hput := enc_put k hk'
      simp only [etm, w1, nums, rowsS, nodes, zv, nv, bv, sv, List.append_eq, Option.isSome_some, List.getD_cons_zero, List.getD_cons_succ, VZ, BEq.rfl, seval, -Int.reduceNatCast', kAgg, scD, List.all_cons, List.all_nil]
      try refine ⟨by decide, ?_⟩
      refine CallX.mk (repeat_ok ⟨#[111]⟩ (k % 8) (by omega) (by rw [z1]; omega)) rfl ?_
      simp only [etd, nums, rowsS, nodes, zv, nv, bv, sv, List.append_eq, Option.isSome_some, List.getD_cons_zero, List.getD_cons_succ, VZ, BEq.rfl, seval, -Int.reduceNatCast', kAgg, scD, List.all_cons, List.all_nil]
      have hs0 : (ByteArray.mk #[110]).size + (repB ⟨#[111]⟩ (k % 8)).size ≤ 4611686018427387904 := by rw [z3, rep_size]; omega
      first | refine ⟨hs0, by decide, ?_⟩ | refine ⟨hs0, ?_⟩
      refine CallX.mk (repeat_ok ⟨#[120]⟩ (k / 8) (by omega) (by rw [z2]; omega)) rfl ?_
      have hrow := getD_node (chTo k) k (by rw [chTo_len]; exact hk')
      have hsz : ((ByteArray.mk #[110] ++ repB ⟨#[111]⟩ (k % 8)).size + (repB ⟨#[120]⟩ (k / 8)).size ≤ 4611686018427387904) := by
        rw [ba_size, rep_size, rep_size, z3]; omega
      simp only [nameC_eq, w1, chTo_len, hrow, node_def, wrap_nat (k := k) (by omega), nums, rowsS, nodes, zv, nv, bv, sv, List.append_eq, Option.isSome_some, List.getD_cons_zero, List.getD_cons_succ, VZ, BEq.rfl, seval, -Int.reduceNatCast', kAgg, scD, List.all_cons, List.all_nil]
      refine ⟨hsz, Int.natCast_nonneg k, hk', hk', k + 1, Enter.mk [] [] [] ?_, by omega, by show 64 - (k + 1) < 64 - k; omega⟩
      simp only [hput, nums, rowsS, nodes, zv, nv, bv, sv, List.append_eq, Option.isSome_some, List.getD_cons_zero, List.getD_cons_succ, VZ, BEq.rfl, seval, -Int.reduceNatCast', kAgg, scD, List.all_cons, List.all_nil]
    · have hk' : k = 64 := by
        have : ¬ (k : Int) < 64 := by simpa using h
        omega
      subst hk'
      clear h
      refine ⟨(), Enter.mk [] [60] [] ?_, trivial⟩
      simp only [chTo_all, nums, rowsS, nodes, zv, nv, bv, sv, List.append_eq, Option.isSome_some, List.getD_cons_zero, List.getD_cons_succ, VZ, BEq.rfl, seval, -Int.reduceNatCast', kAgg, scD, List.all_cons, List.all_nil]
  rintro ⟨⟩ _
  have hfs : Small fullC := small_okT full_ok
  simp only [take63, take63', chain_len, nums, rowsS, nodes, zv, nv, bv, sv, List.append_eq, Option.isSome_some, List.getD_cons_zero, List.getD_cons_succ, VZ, BEq.rfl, seval, -Int.reduceNatCast', kAgg, scD, List.all_cons, List.all_nil]
  first | refine ⟨⟨⟨by decide, by decide, by decide⟩, allLen_any _⟩, ?_⟩ | refine ⟨allLen_any _, ?_⟩
  refine CallX.mk (Text_ok fullC hfs) rfl ?_
  have hx0 : textV fullC = textOf fullC 0 := if_pos full_ok
  have hxs := (text_small full_ok (v := 0) (by rw [full_len]; decide)).2
  have hpr := inOrd_parse full_ok (inOrd_text full_ok)
  rw [full_ord] at hpr
  obtain ⟨x, hx⟩ : ∃ x, textOf fullC 0 = x := ⟨_, rfl⟩
  rw [hx] at hx0 hxs hpr
  obtain ⟨hpv, hpe⟩ := parseV_some (by omega) hpr
  simp only [hx0, full_ok, errOf_true, nums, rowsS, nodes, zv, nv, bv, sv, List.append_eq, Option.isSome_some, List.getD_cons_zero, List.getD_cons_succ, VZ, BEq.rfl, seval, -Int.reduceNatCast', kAgg, scD, List.all_cons, List.all_nil]
  refine CallX.mk (Parse_ok x) rfl ?_
  simp only [hpv, hpe, nums, rowsS, nodes, zv, nv, bv, sv, List.append_eq, Option.isSome_some, List.getD_cons_zero, List.getD_cons_succ, VZ, BEq.rfl, seval, -Int.reduceNatCast', kAgg, scD, List.all_cons, List.all_nil]
  refine CallX.mk (Depth_ok fullC 62 hfs) rfl ?_
  simp only [full_depth, full_chk, nums, rowsS, nodes, zv, nv, bv, sv, List.append_eq, Option.isSome_some, List.getD_cons_zero, List.getD_cons_succ, VZ, BEq.rfl, seval, -Int.reduceNatCast', kAgg, scD, List.all_cons, List.all_nil]
  refine CallX.mk (Ok.vals (Prune_ok fullC [62] hfs (by decide))) rfl ?_
  simp only [full_prune.1, full_prune.2, valA, nums, rowsS, nodes, zv, nv, bv, sv, List.append_eq, Option.isSome_some, List.getD_cons_zero, List.getD_cons_succ, VZ, BEq.rfl, seval, -Int.reduceNatCast', kAgg, scD, List.all_cons, List.all_nil]
  refine CallX.mk (check_ok fullC hfs) rfl ?_
  simp only [full_ok, errOf_true, nums, rowsS, nodes, zv, nv, bv, sv, List.append_eq, Option.isSome_some, List.getD_cons_zero, List.getD_cons_succ, VZ, BEq.rfl, seval, -Int.reduceNatCast', kAgg, scD, List.all_cons, List.all_nil]
  refine CallX.mk (check_ok chainC chain_small) rfl ?_
  simp only [chain_bad, errOf_false, nums, rowsS, nodes, zv, nv, bv, sv, List.append_eq, Option.isSome_some, List.getD_cons_zero, List.getD_cons_succ, VZ, BEq.rfl, seval, -Int.reduceNatCast', kAgg, scD, List.all_cons, List.all_nil]
  refine CallX.mk (same_ok fullC fullC (by rw [full_len]; decide)) rfl ?_
  have hf62 : (fullC.map Node.enc).getD (Int.toNat 62) [] = (nodeC 62).enc := by
    show (fullC.map Node.enc).getD 62 [] = _
    rw [getD_node fullC 62 (by rw [full_len]; decide), full_at (by decide)]
  have hf62' : (fullC.map Node.enc).getD 62 [] = (nodeC 62).enc := hf62
  have n11 : (((1 : Nat) : Int) != 1) = false := rfl
  simp only [decide_eq_true (show fullC = fullC from rfl), n11, hf62, hf62', node_def, nodeC, full_len, beq_self_eq_true, nums, rowsS, nodes, zv, nv, bv, sv, List.append_eq, Option.isSome_some, List.getD_cons_zero, List.getD_cons_succ, VZ, BEq.rfl, seval, -Int.reduceNatCast', kAgg, scD, List.all_cons, List.all_nil]
  try refine ⟨by decide, ?_⟩
  have h24 : Ok Try.prog E 14 [sv ⟨#[97]⟩, zv 24] (sv longB) := repeat_ok ⟨#[97]⟩ 24 (by decide) (by decide)
  refine CallX.mk h24 rfl ?_
  have hls : longB.size = 24 := rep_size 97 24
  have z1 : (ByteArray.mk #[97]).size = 1 := rfl
  simp only [hls, z1, nums, rowsS, nodes, zv, nv, bv, sv, List.append_eq, Option.isSome_some, List.getD_cons_zero, List.getD_cons_succ, VZ, BEq.rfl, seval, -Int.reduceNatCast', kAgg, scD, List.all_cons, List.all_nil]
  have hbl : badL.length = 10 := rfl
  have hbd : (treesD badL).length = 10 := rfl
  refine LoopVC.mk (Y := Nat) (fun i => i ≤ 10) (fun i => ⟨[(1, .c (nodes exT)), (4, .c (nodes fullC)), (5, .c (nodes chainC)), (14, sv longB), (15, .c (.sl (treesD badL))), (16, nv i)], []⟩) (fun i => 10 - i) ⟨0, Enter.mk [] [181] [] ?_, by omega⟩ ?_
  · simp only [nums, rowsS, nodes, zv, nv, bv, sv, List.append_eq, Option.isSome_some, List.getD_cons_zero, List.getD_cons_succ, VZ, BEq.rfl, seval, -Int.reduceNatCast', kAgg, scD, List.all_cons, List.all_nil]
    exact ⟨rfl, rfl⟩
  intro i hi
  have elt : decide ((i : Int) < ((10 : Nat) : Int)) = decide (i < 10) := by congr 1; exact propext ⟨fun h => by omega, fun h => by omega⟩
  simp only [hbd, elt, nums, rowsS, nodes, zv, nv, bv, sv, List.append_eq, Option.isSome_some, List.getD_cons_zero, List.getD_cons_succ, VZ, BEq.rfl, seval, -Int.reduceNatCast', kAgg, scD, List.all_cons, List.all_nil]
  refine guardB.mk (fun h => ?_) (fun h => ?_)
  · have hi' : i < 10 := by simpa using h
    clear h
    obtain ⟨hb0, hbs⟩ := bad_at hi'
    have hta := trees_at badL (i := i) hi'
    obtain ⟨B, hB⟩ : ∃ B, badL.getD i [] = B := ⟨_, rfl⟩
    rw [hB] at hb0 hbs hta
    have hck : ∀ l, chkE B l = 16 := fun l => by rw [chkE, if_neg (by rw [hb0]; decide)]
    have hpe : pruneE B [] = 16 := by rw [pruneE, if_neg (by rw [hb0]; decide)]
    have hfe : ∀ x, findE B x = 16 := fun x => by rw [findE, if_neg (by rw [hb0]; decide)]
    simp only [hta, nums, rowsS, nodes, zv, nv, bv, sv, List.append_eq, Option.isSome_some, List.getD_cons_zero, List.getD_cons_succ, VZ, BEq.rfl, seval, -Int.reduceNatCast', kAgg, scD, List.all_cons, List.all_nil]
    refine ⟨⟨Int.natCast_nonneg i, by rw [hbd]; exact hi'⟩, ?_⟩
    refine CallX.mk (Children_ok B (-1) hbs) rfl ?_
    simp only [hck, hta, nums, rowsS, nodes, zv, nv, bv, sv, List.append_eq, Option.isSome_some, List.getD_cons_zero, List.getD_cons_succ, VZ, BEq.rfl, seval, -Int.reduceNatCast', kAgg, scD, List.all_cons, List.all_nil]
    refine ⟨⟨Int.natCast_nonneg i, by rw [hbd]; exact hi'⟩, ?_⟩
    refine CallX.mk (Leaves_ok B hbs) rfl ?_
    simp only [hb0, errOf_false, hta, nums, rowsS, nodes, zv, nv, bv, sv, List.append_eq, Option.isSome_some, List.getD_cons_zero, List.getD_cons_succ, VZ, BEq.rfl, seval, -Int.reduceNatCast', kAgg, scD, List.all_cons, List.all_nil]
    refine ⟨⟨Int.natCast_nonneg i, by rw [hbd]; exact hi'⟩, ?_⟩
    refine CallX.mk (Ok.vals (Prune_ok B [] hbs (by decide))) rfl ?_
    simp only [hpe, hta, valA, nums, rowsS, nodes, zv, nv, bv, sv, List.append_eq, Option.isSome_some, List.getD_cons_zero, List.getD_cons_succ, VZ, BEq.rfl, seval, -Int.reduceNatCast', kAgg, scD, List.all_cons, List.all_nil]
    refine ⟨⟨Int.natCast_nonneg i, by rw [hbd]; exact hi'⟩, ?_⟩
    refine CallX.mk (Find_ok B ⟨#[114]⟩ hbs) rfl ?_
    simp only [hfe, hta, nums, rowsS, nodes, zv, nv, bv, sv, List.append_eq, Option.isSome_some, List.getD_cons_zero, List.getD_cons_succ, VZ, BEq.rfl, seval, -Int.reduceNatCast', kAgg, scD, List.all_cons, List.all_nil]
    refine ⟨⟨Int.natCast_nonneg i, by rw [hbd]; exact hi'⟩, ?_⟩
    refine CallX.mk (Common_ok B 9 9 hbs) rfl ?_
    simp only [hck, hta, nums, rowsS, nodes, zv, nv, bv, sv, List.append_eq, Option.isSome_some, List.getD_cons_zero, List.getD_cons_succ, VZ, BEq.rfl, seval, -Int.reduceNatCast', kAgg, scD, List.all_cons, List.all_nil]
    refine ⟨⟨Int.natCast_nonneg i, by rw [hbd]; exact hi'⟩, ?_⟩
    refine CallX.mk (check_ok B hbs) rfl ?_
    simp only [hb0, errOf_false, wrap_nat (k := i) (by omega), nums, rowsS, nodes, zv, nv, bv, sv, List.append_eq, Option.isSome_some, List.getD_cons_zero, List.getD_cons_succ, VZ, BEq.rfl, seval, -Int.reduceNatCast', kAgg, scD, List.all_cons, List.all_nil]
    refine ⟨i + 1, Enter.id ?_, by omega, by show 10 - (i + 1) < 10 - i; omega⟩
    simp only [nums, rowsS, nodes, zv, nv, bv, sv, List.append_eq, Option.isSome_some, List.getD_cons_zero, List.getD_cons_succ, VZ, BEq.rfl, seval, -Int.reduceNatCast', kAgg, scD, List.all_cons, List.all_nil]
  have hi' : i = 10 := by
    have : ¬ i < 10 := by simpa using h
    omega
  subst hi'
  clear h elt
  have h7 : Ok Try.prog E 14 [sv ⟨#[40]⟩, zv 70000] (sv (repB ⟨#[40]⟩ 70000)) := repeat_ok ⟨#[40]⟩ 70000 (by decide) (by rw [show (ByteArray.mk #[40]).size = 1 from rfl]; omega)
  have h7s := rep_size 40 70000
  have hc63 : (chainC.map Node.enc).getD (Int.toNat 63) [] = (nodeC 63).enc := by
    show (chainC.map Node.enc).getD 63 [] = _
    rw [getD_node chainC 63 (by rw [chain_len]; decide), chain_at (by decide)]
  have hc63' : (chainC.map Node.enc).getD 63 [] = (nodeC 63).enc := hc63
  have hn63 : (nameC 63).size = 15 := nameC_size 63
  have hbig' : (repB ⟨#[40]⟩ 70000).extract 0 60000 = bigB := rfl
  have hbig : (repB ⟨#[40]⟩ 70000).extract 0 (Int.toNat 60000) = bigB := rfl
  have z2 : (ByteArray.mk #[40, 41]).size = 2 := rfl
  simp only [hls, z1, nums, rowsS, nodes, zv, nv, bv, sv, List.append_eq, Option.isSome_some, List.getD_cons_zero, List.getD_cons_succ, VZ, BEq.rfl, seval, -Int.reduceNatCast', kAgg, scD, List.all_cons, List.all_nil]
  refine CallX.mk h7 rfl ?_
  simp only [h7s, hbig, hbig', hc63, hc63', node_def, nodeC, hn63, z2, chain_len, nums, rowsS, nodes, zv, nv, bv, sv, List.append_eq, Option.isSome_some, List.getD_cons_zero, List.getD_cons_succ, VZ, BEq.rfl, seval, -Int.reduceNatCast', kAgg, scD, List.all_cons, List.all_nil]
  first | refine ⟨⟨by decide, by decide, by decide⟩, by decide, ?_⟩ | refine ⟨⟨by decide, by decide, by decide⟩, ?_⟩
  clear h7 h7s hbig hbig' hc63 hc63' hn63
  have htl : textsL.length = 23 := rfl
  have htd : (strsD textsL).length = 23 := rfl
  refine LoopVC.mk (Y := Nat) (fun i => i ≤ 23) (fun i => ⟨[(1, .c (nodes exT)), (4, .c (nodes fullC)), (14, sv longB), (27, .c (.sl (strsD textsL))), (28, nv i)], []⟩) (fun i => 23 - i) ⟨0, Enter.mk [] [263] [] ?_, by omega⟩ ?_
  · simp only [nums, rowsS, nodes, zv, nv, bv, sv, List.append_eq, Option.isSome_some, List.getD_cons_zero, List.getD_cons_succ, VZ, BEq.rfl, seval, -Int.reduceNatCast', kAgg, scD, List.all_cons, List.all_nil]
    exact ⟨rfl, rfl⟩
  intro i hi
  have elt : decide ((i : Int) < ((23 : Nat) : Int)) = decide (i < 23) := by congr 1; exact propext ⟨fun h => by omega, fun h => by omega⟩
  simp only [htd, elt, nums, rowsS, nodes, zv, nv, bv, sv, List.append_eq, Option.isSome_some, List.getD_cons_zero, List.getD_cons_succ, VZ, BEq.rfl, seval, -Int.reduceNatCast', kAgg, scD, List.all_cons, List.all_nil]
  refine guardB.mk (fun h => ?_) (fun h => ?_)
  · have hi' : i < 23 := by simpa using h
    clear h
    have hta := strs_at textsL (i := i) hi'
    have hbt := texts_bad (s := textsL.getD i ⟨#[]⟩) (by rw [getD_of ⟨#[]⟩ textsL i hi']; exact List.getElem_mem _)
    obtain ⟨B, hB⟩ : ∃ B, textsL.getD i ⟨#[]⟩ = B := ⟨_, rfl⟩
    rw [hB] at hta hbt
    obtain ⟨b1, b2⟩ := parseV_none hbt.1 hbt.2
    simp only [hta, nums, rowsS, nodes, zv, nv, bv, sv, List.append_eq, Option.isSome_some, List.getD_cons_zero, List.getD_cons_succ, VZ, BEq.rfl, seval, -Int.reduceNatCast', kAgg, scD, List.all_cons, List.all_nil]
    refine ⟨⟨Int.natCast_nonneg i, by rw [htd]; exact hi'⟩, ?_⟩
    refine CallX.mk (Parse_ok B) rfl ?_
    have n10 : ((10 : Int) != 10) = false := rfl
    have n00 : (((0 : Nat) : Int) != 0) = false := rfl
    simp only [b1, b2, n10, n00, List.map_nil, List.length_nil, wrap_nat (k := i) (by omega), nums, rowsS, nodes, zv, nv, bv, sv, List.append_eq, Option.isSome_some, List.getD_cons_zero, List.getD_cons_succ, VZ, BEq.rfl, seval, -Int.reduceNatCast', kAgg, scD, List.all_cons, List.all_nil]
    refine ⟨i + 1, Enter.id ?_, by omega, by show 23 - (i + 1) < 23 - i; omega⟩
    simp only [nums, rowsS, nodes, zv, nv, bv, sv, List.append_eq, Option.isSome_some, List.getD_cons_zero, List.getD_cons_succ, VZ, BEq.rfl, seval, -Int.reduceNatCast', kAgg, scD, List.all_cons, List.all_nil]
  have hi' : i = 23 := by
    have : ¬ i < 23 := by simpa using h
    omega
  subst hi'
  clear h elt htl htd
  refine LoopVC.mk (Y := Nat) (fun k => k ≤ 61) (fun k => ⟨[(1, .c (nodes exT)), (4, .c (nodes fullC)), (14, sv longB), (31, sv (wideB k)), (32, nv (k + 1))], []⟩) (fun k => 61 - k) ⟨0, Enter.id ?_, by omega⟩ ?_
  · simp only [nums, rowsS, nodes, zv, nv, bv, sv, List.append_eq, Option.isSome_some, List.getD_cons_zero, List.getD_cons_succ, VZ, BEq.rfl, seval, -Int.reduceNatCast', kAgg, scD, List.all_cons, List.all_nil]
    exact ⟨rfl, rfl⟩
  intro k hk
  have elt : decide (((k + 1 : Nat) : Int) < 62) = decide (k < 61) := by congr 1; exact propext ⟨fun h => by omega, fun h => by omega⟩
  simp only [elt, nums, rowsS, nodes, zv, nv, bv, sv, List.append_eq, Option.isSome_some, List.getD_cons_zero, List.getD_cons_succ, VZ, BEq.rfl, seval, -Int.reduceNatCast', kAgg, scD, List.all_cons, List.all_nil]
  refine guardB.mk (fun h => ?_) (fun h => ?_)
  · have hk' : k < 61 := by simpa using h
    clear h
    have hfk : (fullC.map Node.enc).getD (k + 1) [] = (nodeC (k + 1)).enc := by rw [getD_node fullC (k + 1) (by rw [full_len]; omega), full_at (by omega)]
    have hws := wideB_size k (by omega)
    have hns := nameC_size (k + 1)
    have z44 : (ByteArray.mk #[44]).size = 1 := rfl
    have hwk : (wideB k ++ ⟨#[44]⟩) ++ nameC (k + 1) = wideB (k + 1) := rfl
    have hsz1 : (wideB k).size + (ByteArray.mk #[44]).size ≤ 4611686018427387904 := by rw [z44]; omega
    have hsz2 : (wideB k ++ ⟨#[44]⟩).size + (nameC (k + 1)).size ≤ 4611686018427387904 := by rw [ba_size, z44]; omega
    simp only [hfk, node_def, nodeC, hwk, full_len, wrap_nat (k := k + 1) (by omega), nums, rowsS, nodes, zv, nv, bv, sv, List.append_eq, Option.isSome_some, List.getD_cons_zero, List.getD_cons_succ, VZ, BEq.rfl, seval, -Int.reduceNatCast', kAgg, scD, List.all_cons, List.all_nil]
    refine ⟨hsz1, ⟨Int.natCast_nonneg _, by omega⟩, hsz2, k + 1, Enter.id ?_, by omega, by show 61 - (k + 1) < 61 - k; omega⟩
    simp only [nums, rowsS, nodes, zv, nv, bv, sv, List.append_eq, Option.isSome_some, List.getD_cons_zero, List.getD_cons_succ, VZ, BEq.rfl, seval, -Int.reduceNatCast', kAgg, scD, List.all_cons, List.all_nil]
  have hk' : k = 61 := by
    have : ¬ k < 61 := by simpa using h
    omega
  subst hk'
  clear h elt
  have hw := wideB_size 61 (by omega)
  obtain ⟨w1v, w1e⟩ := parseV_some wide1_size wide1_parse
  obtain ⟨w2v, w2e⟩ := parseV_none wide2_size wide2_parse
  have hwl := wideT_len
  obtain ⟨WT, hWT⟩ : ∃ WT, wideT = WT := ⟨_, rfl⟩
  rw [hWT] at w1v hwl
  have z2' : (ByteArray.mk #[41, 114]).size = 2 := rfl
  have z4 : (ByteArray.mk #[44, 98, 41, 114]).size = 4 := rfl
  have hsz1 : (wideB 61).size + (ByteArray.mk #[41, 114]).size ≤ 4611686018427387904 := by rw [z2']; omega
  have hsz2 : (wideB 61).size + (ByteArray.mk #[44, 98, 41, 114]).size ≤ 4611686018427387904 := by rw [z4]; omega
  simp only [nums, rowsS, nodes, zv, nv, bv, sv, List.append_eq, Option.isSome_some, List.getD_cons_zero, List.getD_cons_succ, VZ, BEq.rfl, seval, -Int.reduceNatCast', kAgg, scD, List.all_cons, List.all_nil]
  refine ⟨hsz1, ?_⟩
  refine CallX.mk (Parse_ok wide1) rfl ?_
  simp only [w1v, w1e, nums, rowsS, nodes, zv, nv, bv, sv, List.append_eq, Option.isSome_some, List.getD_cons_zero, List.getD_cons_succ, VZ, BEq.rfl, seval, -Int.reduceNatCast', kAgg, scD, List.all_cons, List.all_nil]
  refine ⟨hsz2, ?_⟩
  refine CallX.mk (Parse_ok wide2) rfl ?_
  simp only [w2v, w2e, nums, rowsS, nodes, zv, nv, bv, sv, List.append_eq, Option.isSome_some, List.getD_cons_zero, List.getD_cons_succ, VZ, BEq.rfl, seval, -Int.reduceNatCast', kAgg, scD, List.all_cons, List.all_nil]
  have h65 : Ok Try.prog E 14 [sv ⟨#[97]⟩, zv 65537] (sv (repB ⟨#[97]⟩ 65537)) := repeat_ok ⟨#[97]⟩ 65537 (by decide) (by rw [z1]; omega)
  refine CallX.mk h65 rfl ?_
  obtain ⟨l1, l2⟩ := parseV_long (s := repB ⟨#[97]⟩ 65537) (by rw [toolong_size]; omega)
  simp only [nums, rowsS, nodes, zv, nv, bv, sv, List.append_eq, Option.isSome_some, List.getD_cons_zero, List.getD_cons_succ, VZ, BEq.rfl, seval, -Int.reduceNatCast', kAgg, scD, List.all_cons, List.all_nil]
  refine CallX.mk (Parse_ok (repB ⟨#[97]⟩ 65537)) rfl ?_
  simp only [l1, l2, hls, nums, rowsS, nodes, zv, nv, bv, sv, List.append_eq, Option.isSome_some, List.getD_cons_zero, List.getD_cons_succ, VZ, BEq.rfl, seval, -Int.reduceNatCast', kAgg, scD, List.all_cons, List.all_nil]
  try refine ⟨by decide, ?_⟩
  obtain ⟨o1, o2⟩ := parseV_some one_size one_parse
  have hon : (oneT.map Node.enc).getD 0 [] = [D.sc (.int .i64 (-1)), D.sc (.string longB)] := rfl
  have hol : oneT.length = 2 := rfl
  obtain ⟨OT, hOT⟩ : ∃ OT, oneT = OT := ⟨_, rfl⟩
  rw [hOT] at o1 hon hol
  refine CallX.mk (Parse_ok ((⟨#[40, 97, 41]⟩ : ByteArray) ++ longB)) rfl ?_
  have m63 : (((63 : Nat) : Int) != 63) = false := rfl
  have m2 : (((2 : Nat) : Int) != 2) = false := rfl
  simp only [o1, o2, hon, hol, hwl, m63, m2, beq_self_eq_true, nums, rowsS, nodes, zv, nv, bv, sv, List.append_eq, Option.isSome_some, List.getD_cons_zero, List.getD_cons_succ, VZ, BEq.rfl, seval, -Int.reduceNatCast', kAgg, scD, List.all_cons, List.all_nil]
  try refine ⟨by decide, ?_⟩
  refine CallX.mk (Ok.vals (Prune_ok exT [2, 3] ex_small (by decide))) rfl ?_
  simp only [kn_prune.1, kn_prune.2, valA, nums, rowsS, nodes, zv, nv, bv, sv, List.append_eq, Option.isSome_some, List.getD_cons_zero, List.getD_cons_succ, VZ, BEq.rfl, seval, -Int.reduceNatCast', kAgg, scD, List.all_cons, List.all_nil]
  refine CallX.mk (Ok.vals (Prune_ok exT [1] ex_small (by decide))) rfl ?_
  simp only [kn_prune2.1, valA, nums, rowsS, nodes, zv, nv, bv, sv, List.append_eq, Option.isSome_some, List.getD_cons_zero, List.getD_cons_succ, VZ, BEq.rfl, seval, -Int.reduceNatCast', kAgg, scD, List.all_cons, List.all_nil]
  refine CallX.mk (Ok.vals (Prune_ok exT [2, 2, 9] ex_small (by decide))) rfl ?_
  simp only [kn_prune2.2.1, valA, nums, rowsS, nodes, zv, nv, bv, sv, List.append_eq, Option.isSome_some, List.getD_cons_zero, List.getD_cons_succ, VZ, BEq.rfl, seval, -Int.reduceNatCast', kAgg, scD, List.all_cons, List.all_nil]
  refine CallX.mk (Ok.vals (Prune_ok exT [2, 9, 2] ex_small (by decide))) rfl ?_
  simp only [kn_prune2.2.2.1, valA, nums, rowsS, nodes, zv, nv, bv, sv, List.append_eq, Option.isSome_some, List.getD_cons_zero, List.getD_cons_succ, VZ, BEq.rfl, seval, -Int.reduceNatCast', kAgg, scD, List.all_cons, List.all_nil]
  refine CallX.mk (Ok.vals (Prune_ok exT [] ex_small (by decide))) rfl ?_
  simp only [kn_prune2.2.2.2, valA, nums, rowsS, nodes, zv, nv, bv, sv, List.append_eq, Option.isSome_some, List.getD_cons_zero, List.getD_cons_succ, VZ, BEq.rfl, seval, -Int.reduceNatCast', kAgg, scD, List.all_cons, List.all_nil]
  refine CallX.mk (Find_ok exT ⟨#[99]⟩ ex_small) rfl ?_
  simp only [kn_find.1, kn_find.2.1, nums, rowsS, nodes, zv, nv, bv, sv, List.append_eq, Option.isSome_some, List.getD_cons_zero, List.getD_cons_succ, VZ, BEq.rfl, seval, -Int.reduceNatCast', kAgg, scD, List.all_cons, List.all_nil]
  refine CallX.mk (Find_ok exT ⟨#[]⟩ ex_small) rfl ?_
  simp only [kn_find.2.2, nums, rowsS, nodes, zv, nv, bv, sv, List.append_eq, Option.isSome_some, List.getD_cons_zero, List.getD_cons_succ, VZ, BEq.rfl, seval, -Int.reduceNatCast', kAgg, scD, List.all_cons, List.all_nil]
  refine CallX.mk (Common_ok exT 5 0 ex_small) rfl ?_
  simp only [kn_chk.1, nums, rowsS, nodes, zv, nv, bv, sv, List.append_eq, Option.isSome_some, List.getD_cons_zero, List.getD_cons_succ, VZ, BEq.rfl, seval, -Int.reduceNatCast', kAgg, scD, List.all_cons, List.all_nil]
  refine CallX.mk (Clade_ok exT (-1) ex_small) rfl ?_
  simp only [kn_chk.2, bitsU, nums, rowsS, nodes, zv, nv, bv, sv, List.append_eq, Option.isSome_some, List.getD_cons_zero, List.getD_cons_succ, VZ, BEq.rfl, seval, -Int.reduceNatCast', kAgg, scD, List.all_cons, List.all_nil]
  refine CallX.mk (same_ok prT prT (by decide)) rfl ?_
  simp only [decide_eq_true (show prT = prT from rfl), nums, rowsS, nodes, zv, nv, bv, sv, List.append_eq, Option.isSome_some, List.getD_cons_zero, List.getD_cons_succ, VZ, BEq.rfl, seval, -Int.reduceNatCast', kAgg, scD, List.all_cons, List.all_nil]
  refine CallX.mk works_ok rfl ?_
  simp only [nums, rowsS, nodes, zv, nv, bv, sv, List.append_eq, Option.isSome_some, List.getD_cons_zero, List.getD_cons_succ, VZ, BEq.rfl, seval, -Int.reduceNatCast', kAgg, scD, List.all_cons, List.all_nil]

end Go.Cp
namespace Go.Proofs.Ytiioldgdgfdjeaa
open Go Go.Proofs Go.RowKit Go.ChangeShapes Go.WideShapes Go.ChangeAt Go.Vx Go.Cp

theorem treeKnown_lifted (os : Os) (started : os.Started) (H : Type) (enc : TypeId × Value → H) :
    ReturnsInHanded {} Try.checked os 3 .any (Rows.treeKnownSpec.pre6 enc Try.prog Try.f3 Rows.treeKnownRow.domain false) (Rows.treeKnownSpec.post enc Try.prog Try.f3 false true false false) := by
  refine law_lifted (m := 8) (tb := 4) os started H enc own laid (by kernel_rfl) Try.func3 rfl Try.underlying4 rfl ?_ (by kernel_rfl) (by kernel_rfl)
    (ChangeSpec.witness6 (enc := enc) (C := Try.checked) false ⟨#[], #[], []⟩ 8 (by kernel_rfl) (by kernel_rfl) (by kernel_rfl) (by kernel_rfl)) ?_
  · rw [Try.params3]
    intro ds hd
    match ds, hd with
    | [], _ => exact ⟨rfl, rfl, rfl⟩
  · rw [Try.params3]
    intro dss h
    match dss, h with
    | [], _ =>
      simp only [argsAV, argAV]
      exact known_law

theorem treeKnown_holds : Rows.TreeKnownSaid :=
  OpenClaim.holds_of_wide 3 Try.f3 rfl rfl rfl rfl rfl rfl rfl ⟨rfl, rfl, rfl, rfl, rfl⟩ rfl rfl rfl rfl rfl (by kernel_rfl) Try.func3 (by kernel_rfl)
    (of_decide_eq_true (by kernel_rfl)) (by unfold Func.isWrapper; first | (rw [if_pos (by decide +kernel)]; kernel_rfl) | (rw [if_neg (by decide +kernel)]; exact ⟨rfl, rfl⟩))
    (fun os started H enc _ => treeKnown_lifted os started H enc)
#print axioms treeKnown_holds

end Go.Proofs.Ytiioldgdgfdjeaa
