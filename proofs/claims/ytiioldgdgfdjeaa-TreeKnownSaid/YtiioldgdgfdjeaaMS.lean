/-
  Tree: strings.Repeat over the shelf's law, laid at this program. Conditions: none.
  Tree: the known examples, as data (plain). Conditions: none.
-/
import Derived.Test.YtiioldgdgfdjeaaMR
import Derived.Shelf.Strings.Repeat

section
set_option linter.unusedVariables false
set_option linter.unusedSimpArgs false
set_option maxHeartbeats 4000000
set_option maxRecDepth 10000
namespace Go.Cp
open Go Go.Proofs Go.Vx

def renR : Go.Shelf.Ren := ⟨fun | 99 => 45 | 105 => 14 | 165 => 46 | 166 => 47 | 169 => 49 | 170 => 48 | 206 => 74 | 212 => 44 | 240 => 75 | 241 => 76 | 263 => 72 | 264 => 73 | 276 => 84 | 277 => 85 | n => n, fun | 0 => 0 | 3 => 3 | 4 => 4 | 5 => 5 | 9 => 9 | 20 => 20 | 37 => 68 | 46 => 63 | 51 => 109 | 53 => 45 | 70 => 67 | 72 => 70 | 75 => 73 | 76 => 74 | 80 => 77 | 109 => 64 | 127 => 114 | 146 => 110 | 148 => 112 | 164 => 120 | n => n, fun n => n⟩
theorem layRep : Lays.n105 Try.prog renR := {
  mixed := by kernel_rfl,
  f99 := Try.func45.trans (congrArg some (by kernel_rfl)),
  f105 := Try.func14.trans (congrArg some (by kernel_rfl)),
  f165 := Try.func46.trans (congrArg some (by kernel_rfl)),
  f166 := Try.func47.trans (congrArg some (by kernel_rfl)),
  f169 := Try.func49.trans (congrArg some (by kernel_rfl)),
  f170 := Try.func48.trans (congrArg some (by kernel_rfl)),
  f206 := Try.func74.trans (congrArg some (by kernel_rfl)),
  f212 := Try.func44.trans (congrArg some (by kernel_rfl)),
  f240 := Try.func75.trans (congrArg some (by kernel_rfl)),
  f241 := Try.func76.trans (congrArg some (by kernel_rfl)),
  f263 := Try.func72.trans (congrArg some (by kernel_rfl)),
  f264 := Try.func73.trans (congrArg some (by kernel_rfl)),
  f276 := Try.func84.trans (congrArg some (by kernel_rfl)),
  f277 := Try.func85.trans (congrArg some (by kernel_rfl)),
  t0 := Try.underlying0,
  a0 := Try.isAgg0,
  z0 := Try.sizeOf0,
  v0 := Try.zeroValue0,
  t3 := Try.underlying3,
  a3 := Try.isAgg3,
  z3 := Try.sizeOf3,
  v3 := Try.zeroValue3,
  t4 := Try.underlying4,
  a4 := Try.isAgg4,
  z4 := Try.sizeOf4,
  v4 := Try.zeroValue4,
  t5 := Try.underlying5,
  a5 := Try.isAgg5,
  z5 := Try.sizeOf5,
  v5 := Try.zeroValue5,
  t9 := Try.underlying9,
  a9 := Try.isAgg9,
  z9 := Try.sizeOf9,
  v9 := Try.zeroValue9,
  t20 := Try.underlying20,
  a20 := Try.isAgg20,
  z20 := Try.sizeOf20,
  v20 := Try.zeroValue20,
  t37 := Try.underlying68,
  a37 := Try.isAgg68,
  z37 := Try.sizeOf68,
  v37 := Try.zeroValue68,
  t46 := Try.underlying63,
  a46 := Try.isAgg63,
  z46 := Try.sizeOf63,
  v46 := Try.zeroValue63,
  t51 := Try.underlying109,
  a51 := Try.isAgg109,
  z51 := Try.sizeOf109,
  v51 := Try.zeroValue109,
  t53 := Try.underlying45,
  a53 := Try.isAgg45,
  z53 := Try.sizeOf45,
  v53 := Try.zeroValue45,
  t70 := Try.underlying67,
  a70 := Try.isAgg67,
  z70 := Try.sizeOf67,
  v70 := Try.zeroValue67,
  t72 := Try.underlying70,
  a72 := Try.isAgg70,
  z72 := Try.sizeOf70,
  v72 := Try.zeroValue70,
  t75 := Try.underlying73,
  a75 := Try.isAgg73,
  z75 := Try.sizeOf73,
  v75 := Try.zeroValue73,
  t76 := Try.underlying74,
  a76 := Try.isAgg74,
  z76 := Try.sizeOf74,
  v76 := Try.zeroValue74,
  t109 := Try.underlying64,
  a109 := Try.isAgg64,
  z109 := Try.sizeOf64,
  v109 := Try.zeroValue64,
  t127 := Try.underlying114,
  a127 := Try.isAgg114,
  z127 := Try.sizeOf114,
  v127 := Try.zeroValue114,
  t146 := Try.underlying110,
  a146 := Try.isAgg110,
  z146 := Try.sizeOf110,
  v146 := Try.zeroValue110,
  t148 := Try.underlying112,
  a148 := Try.isAgg112,
  z148 := Try.sizeOf112,
  v148 := Try.zeroValue112,
  t164 := Try.underlying120,
  a164 := Try.isAgg120,
  z164 := Try.sizeOf120,
  v164 := Try.zeroValue120 }
theorem extraRep : Builder.Extra Try.prog renR := {
  sizeBuilder := by kernel_rfl,
  liesBuilder := by kernel_rfl,
  t5 := Try.underlying5,
  a5 := Try.isAgg5,
  z5 := Try.sizeOf5,
  v5 := Try.zeroValue5,
  infoByte := by kernel_rfl,
  cellsByte := by kernel_rfl,
  sizeByte := by kernel_rfl,
  neB5 := by decide }

def repB (s : ByteArray) (c : Nat) : ByteArray := ⟨(Lib.repeatL s.data.toList c).toArray⟩
theorem repeat_ok (s : ByteArray) (c : Nat) (hc : c ≤ 9223372036854775807) (hlen : s.size * c ≤ 140737488355328) : Ok Try.prog E 14 [sv s, nv c] (sv (repB s c)) := by
  refine ⟨⟨_, Try.func14, by decide, rfl⟩, fun w M vals hM hvs hv => ?_⟩
  have h0 := hv 0 _ rfl
  have h1 := hv 1 _ rfl
  have e : vals = #[vals.getD 0 undef, vals.getD 1 undef] := by
    apply Array.ext
    · simpa using hvs
    · intro i h1 h2
      have h2 : i < 2 := h2
      match i, h2 with
      | 0, _ => simp [Array.getD_eq_getD_getElem?, Array.getElem?_eq_getElem h1]
      | 1, _ => simp [Array.getD_eq_getD_getElem?, Array.getElem?_eq_getElem h1]
  revert h0 h1 e
  generalize vals.getD 0 undef = a
  generalize vals.getD 1 undef = b
  intro h0 h1 e
  subst e
  have ha : a = .string s := by
    cases h0 with
    | c v d h => cases h; rfl
  have hb : b = .int .i64 c := by
    cases h1 with
    | c v d h => cases h; rfl
  subst ha
  subst hb
  have hfin := Any.strings_Repeat layRep extraRep s c w hc hlen
  exact hfin.mono fun e w' ⟨he, hb⟩ => ⟨_, he, hb, .sc _ rfl⟩
theorem repeatL_one (b : UInt8) : ∀ c, Lib.repeatL [b] c = List.replicate c b
  | 0 => rfl
  | c + 1 => by rw [Lib.repeatL, repeatL_one b c]; rfl
theorem repB_bl (b : UInt8) (c : Nat) : bl (repB ⟨#[b]⟩ c) = List.replicate c b := by
  show (Lib.repeatL [b] c).toArray.toList = _
  rw [repeatL_one]

end Go.Cp
end

section
set_option linter.unusedVariables false
set_option linter.unusedSimpArgs false
set_option maxHeartbeats 8000000
set_option maxRecDepth 100000
namespace Go.Cp
open Go Go.Proofs Go.Vx

def nameC (v : Nat) : ByteArray := ⟨(110 :: (List.replicate (v % 8) 111 ++ List.replicate (v / 8) 120)).toArray⟩
theorem nameC_eq (v : Nat) : (⟨#[110]⟩ ++ repB ⟨#[111]⟩ (v % 8)) ++ repB ⟨#[120]⟩ (v / 8) = nameC v := bl_inj (by
  rw [bl_append, bl_append, repB_bl, repB_bl]; rfl)
def nodeC (v : Nat) : Node := ⟨(v : Int) - 1, nameC v⟩
def chTo (k : Nat) : List Node := (List.range 64).map fun v => if v < k then nodeC v else Node.zero
def chainC : List Node := (List.range 64).map nodeC
def fullC : List Node := (List.range 63).map nodeC
theorem chTo_len (k : Nat) : (chTo k).length = 64 := by simp [chTo]
theorem chTo_zero : chTo 0 = List.replicate 64 Node.zero := by
  refine List.ext_getElem (by simp [chTo]) fun i h1 h2 => ?_
  simp only [chTo, List.getElem_map, List.getElem_range, List.getElem_replicate]
  rw [if_neg (by omega)]
theorem chTo_all : chTo 64 = chainC := by
  rw [chTo, chainC]
  refine List.map_congr_left fun v hv => ?_
  rw [if_pos (by simpa using hv)]
theorem chTo_step {k : Nat} (h : k < 64) : (chTo k).set k (nodeC k) = chTo (k + 1) := by
  refine List.ext_getElem (by simp [chTo]) fun i h1 h2 => ?_
  rw [List.getElem_set]
  simp only [chTo, List.getElem_map, List.getElem_range]
  by_cases e : k = i
  · subst e
    rw [if_pos rfl, if_pos (by omega)]
  · rw [if_neg e]
    by_cases h3 : i < k
    · rw [if_pos h3, if_pos (by omega)]
    · rw [if_neg h3, if_neg (by omega)]
theorem chain_len : chainC.length = 64 := by simp [chainC]
theorem full_len : fullC.length = 63 := by simp [fullC]
theorem full_take : chainC.take 63 = fullC := by
  rw [chainC, fullC, ← List.map_take, List.take_range]; rfl
theorem chain_at {v : Nat} (h : v < 64) : chainC.getD v Node.zero = nodeC v := by
  simp [chainC, List.getD, h]
theorem full_at {v : Nat} (h : v < 63) : fullC.getD v Node.zero = nodeC v := by
  simp [fullC, List.getD, h]
theorem full_ok : okTree fullC = true := by kernel_rfl
theorem chain_bad : okTree chainC = false := by rw [okTree, chain_len]; rfl
theorem full_depth : depthV fullC 62 = 62 := by kernel_rfl
theorem full_prune : pruneV fullC [62] = [⟨-1, nameC 62⟩] ∧ pruneE fullC [62] = 0 := ⟨by kernel_rfl, by kernel_rfl⟩
theorem full_ord : inOrd fullC = fullC := by kernel_rfl


/-! trees that are none -/
def sR : ByteArray := ⟨#[114]⟩
def sA : ByteArray := ⟨#[97]⟩
def longB : ByteArray := repB ⟨#[97]⟩ 24
def badL : List (List Node) := [[], [⟨0, ⟨#[114]⟩⟩], [⟨-1, ⟨#[]⟩⟩], [⟨-1, longB ++ ⟨#[97]⟩⟩], [⟨-1, ⟨#[114]⟩⟩, ⟨-1, ⟨#[97]⟩⟩], [⟨-1, ⟨#[114]⟩⟩, ⟨1, ⟨#[97]⟩⟩], [⟨-1, ⟨#[114]⟩⟩, ⟨0, ⟨#[114]⟩⟩], [⟨-1, ⟨#[114, 95]⟩⟩], [⟨-2, ⟨#[114]⟩⟩], [⟨-1, ⟨#[114]⟩⟩, ⟨2, ⟨#[97]⟩⟩, ⟨0, ⟨#[98]⟩⟩]]
theorem bad_all : badL.all (fun t => !okTree t && t.all fun c => decide (c.name.size ≤ 1000)) = true := by kernel_rfl
theorem bad_at {i : Nat} (h : i < 10) : okTree (badL.getD i []) = false ∧ Small (badL.getD i []) := by
  have hm : badL.getD i [] ∈ badL := by rw [getD_of [] badL i h]; exact List.getElem_mem _
  have := List.all_eq_true.1 bad_all _ hm
  rw [Bool.and_eq_true] at this
  refine ⟨by simpa using this.1, fun k hk => ?_⟩
  have h2 := List.all_eq_true.1 this.2 _ (show (badL.getD i []).getD k Node.zero ∈ _ by rw [getD_of Node.zero _ k hk]; exact List.getElem_mem _)
  have h2 : ((badL.getD i []).getD k Node.zero).name.size ≤ 1000 := of_decide_eq_true h2
  omega
def treesD (l : List (List Node)) : List (List D) := l.map fun t => [nodes t]
theorem trees_at (l : List (List Node)) {i : Nat} (h : i < l.length) : (treesD l).getD i [] = [nodes (l.getD i [])] := by
  simp [treesD, List.getD, h]

/-! texts that are none -/
def bigB : ByteArray := (repB ⟨#[40]⟩ 70000).extract 0 60000
def smallTexts : List ByteArray := [⟨#[]⟩, ⟨#[40, 41]⟩, ⟨#[40, 97, 41]⟩, ⟨#[40, 97, 44, 98, 41]⟩, ⟨#[40, 97, 44, 97, 41, 114]⟩, ⟨#[40, 97, 44, 32, 98, 41, 114]⟩, ⟨#[40, 97, 44, 98, 41, 114, 32]⟩, ⟨#[32, 114]⟩, ⟨#[40, 97, 44, 98, 41, 114, 44, 99]⟩, ⟨#[97, 44, 98]⟩, ⟨#[40, 97, 44, 98]⟩, ⟨#[40, 97, 44, 98, 41, 41, 114]⟩, ⟨#[97, 41]⟩, ⟨#[40, 40, 97, 44, 98, 41, 114]⟩, ⟨#[40, 44, 98, 41, 114]⟩, ⟨#[40, 97, 44, 41, 114]⟩, ⟨#[114, 95]⟩, ⟨#[40, 97, 59, 98, 41, 114]⟩, longB ++ ⟨#[97]⟩, ⟨#[97, 40, 98, 41]⟩, ⟨#[40, 40, 97, 41, 40, 98, 41, 41, 114]⟩, nameC 63 ++ ⟨#[40, 41]⟩]
def textsL : List ByteArray := [⟨#[]⟩, ⟨#[40, 41]⟩, ⟨#[40, 97, 41]⟩, ⟨#[40, 97, 44, 98, 41]⟩, ⟨#[40, 97, 44, 97, 41, 114]⟩, ⟨#[40, 97, 44, 32, 98, 41, 114]⟩, ⟨#[40, 97, 44, 98, 41, 114, 32]⟩, ⟨#[32, 114]⟩, ⟨#[40, 97, 44, 98, 41, 114, 44, 99]⟩, ⟨#[97, 44, 98]⟩, ⟨#[40, 97, 44, 98]⟩, ⟨#[40, 97, 44, 98, 41, 41, 114]⟩, ⟨#[97, 41]⟩, ⟨#[40, 40, 97, 44, 98, 41, 114]⟩, ⟨#[40, 44, 98, 41, 114]⟩, ⟨#[40, 97, 44, 41, 114]⟩, ⟨#[114, 95]⟩, ⟨#[40, 97, 59, 98, 41, 114]⟩, longB ++ ⟨#[97]⟩, ⟨#[97, 40, 98, 41]⟩, ⟨#[40, 40, 97, 41, 40, 98, 41, 41, 114]⟩, bigB, nameC 63 ++ ⟨#[40, 41]⟩]
theorem small_all : smallTexts.all (fun s => decide (s.size ≤ 65536) && (parseR s).isNone) = true := by kernel_rfl
theorem big_bl : bl bigB = List.replicate 60000 40 := by
  rw [bigB, bl_extract, repB_bl, List.drop_zero, List.take_replicate]
  rfl
theorem rd_opens {s : ByteArray} {m : Nat} (hs : ∀ p, p < m → takeB s p 40 = true) : ∀ n f p ns par, 63 ≤ ns.length + n → ns.length ≤ 63 → p + n ≤ m → rdG s f false p ns par = none
  | n, 0, p, ns, par, _, _, _ => rfl
  | n, f + 1, p, ns, par, h1, h2, h3 => by
    rw [rdG]
    by_cases e : ns.length = 63
    · rw [if_pos e]
    · rw [if_neg e]
      cases n with
      | zero => omega
      | succ n =>
        rw [if_pos (hs p (by omega)), rd_opens hs n f (p + 1) _ _ (by simp; omega) (by simp; omega) (by omega)]
        rfl
theorem opens_bad {s : ByteArray} {m : Nat} (hb : bl s = List.replicate m 40) (hm : 63 ≤ m) : s.size = m ∧ parseR s = none := by
  have hsz : s.size = m := by rw [← bl_len, hb, List.length_replicate]
  have ht : ∀ p, p < m → takeB s p 40 = true := fun p hp => by
    rw [takeB, decide_eq_true (by omega), byteAt_bl, hb, List.getD, List.getElem?_replicate, if_pos hp]
    rfl
  refine ⟨hsz, ?_⟩
  have h := rd_opens ht 63 (2 * s.size + 2) 0 [] (-1) (by simp) (by simp) (by omega)
  unfold parseR
  rw [h]
theorem big_bad : bigB.size ≤ 65536 ∧ parseR bigB = none := by
  obtain ⟨h1, h2⟩ := opens_bad big_bl (by decide)
  exact ⟨by rw [h1]; decide, h2⟩
theorem texts_bad {s : ByteArray} (h : s ∈ textsL) : s.size ≤ 65536 ∧ parseR s = none := by
  have hc : s = bigB ∨ s ∈ smallTexts := by
    have e : textsL = smallTexts.take 21 ++ bigB :: smallTexts.drop 21 := rfl
    rw [e] at h
    rcases List.mem_append.1 h with h | h
    · exact .inr (List.mem_of_mem_take h)
    · rcases List.mem_cons.1 h with h | h
      · exact .inl h
      · exact .inr (List.mem_of_mem_drop h)
  rcases hc with rfl | hc
  · exact big_bad
  · have := List.all_eq_true.1 small_all _ hc
    rw [Bool.and_eq_true, decide_eq_true_eq, Option.isNone_iff_eq_none] at this
    exact this
def strsD (l : List ByteArray) : List (List D) := l.map fun s => [.sc (.string s)]
theorem strs_at (l : List ByteArray) {i : Nat} (h : i < l.length) : (strsD l).getD i [] = [.sc (.string (l.getD i ⟨#[]⟩))] := by
  simp [strsD, List.getD, h]

/-! a tree that is too large is not read -/
theorem rd_over (s : ByteArray) : ∀ F : Fo,
    (F.ok → ∀ f p ns (v : Int) r, (bl s).drop p = sepR F F.tx ++ 41 :: r → 63 < ns.length + F.sz → ns.length ≤ 63 → 2 * F.sz + 1 ≤ f → rdG s f true p ns v = none) ∧
    (∀ nm, okT nm F → ∀ f p ns (par : Int) r, (bl s).drop p = (treeF nm F).tx ++ r → Fol r → 63 < ns.length + 1 + F.sz → ns.length ≤ 63 → 2 * F.sz + 2 ≤ f → rdG s f false p ns par = none)
  | .nil => by
    refine ⟨fun _ f p ns v r hd h1 h2 hf => ?_, fun nm hok f p ns par r hd hr h1 h2 hf => ?_⟩
    · simp only [Fo.sz] at h1; omega
    · cases f with
      | zero => rfl
      | succ f =>
        simp only [Fo.sz] at h1
        rw [rdG, if_pos (by omega)]
  | .cons a k r0 => by
    obtain ⟨ak, tk⟩ := rd_over s k
    obtain ⟨ar, tr⟩ := rd_over s r0
    refine ⟨fun hok f p ns v r hd h1 h2 hf => ?_, fun nm hok f p ns par r hd hr h1 h2 hf => ?_⟩
    · cases f with
      | zero => rfl
      | succ f =>
        simp only [Fo.sz] at h1 hf
        rw [sep_cons, tx_cons] at hd
        have hd : (bl s).drop p = 44 :: (((treeF a k).tx ++ sepR r0 r0.tx) ++ 41 :: r) := hd
        have hd1 := (drop_next hd).2
        rw [List.append_assoc] at hd1
        have hd2 := drop_add hd1
        rw [rdG, takeB_of hd, if_pos (by decide)]
        by_cases hfit : ns.length + 1 + k.sz ≤ 63
        · have e1 := (rd_full s k).2 a ⟨hok.1, hok.2.1⟩ f (p + 1) ns v _ hd1 (fol_sep ..) hfit (by omega)
          rw [e1]
          exact ar hok.2.2 f _ _ v r hd2 (by rw [List.length_append, flat_len, sz_tree]; omega) (by rw [List.length_append, flat_len, sz_tree]; omega) (by omega)
        · rw [tk a ⟨hok.1, hok.2.1⟩ f (p + 1) ns v _ hd1 (fol_sep ..) (by omega) h2 (by omega)]
          rfl
    · cases f with
      | zero => rfl
      | succ f =>
        simp only [Fo.sz] at h1 hf
        by_cases h63 : ns.length = 63
        · rw [rdG, if_pos h63]
        · rw [tx_tree, wrap_cons, tx_cons] at hd
          have hd : (bl s).drop p = 40 :: ((((treeF a k).tx ++ sepR r0 r0.tx) ++ [41]) ++ bl nm ++ r) := by rw [hd]; simp
          have hd1 := (drop_next hd).2
          have hd1 : (bl s).drop (p + 1) = (treeF a k).tx ++ (sepR r0 r0.tx ++ 41 :: (bl nm ++ r)) := by rw [hd1]; simp
          have hd2 := drop_add hd1
          have hok1 : okT a k := ⟨hok.2.1, hok.2.2.1⟩
          have hl1 : (ns ++ [(⟨par, emptyS⟩ : Node)]).length = ns.length + 1 := by simp
          rw [rdG, if_neg h63, takeB_of hd, if_pos (by decide)]
          by_cases hfit : ns.length + 1 + 1 + k.sz ≤ 63
          · have e1 := (rd_full s k).2 a hok1 f (p + 1) (ns ++ [(⟨par, emptyS⟩ : Node)]) ns.length _ hd1 (fol_sep ..) (by rw [hl1]; exact hfit) (by omega)
            rw [e1]
            simp only [Option.bind_some]
            rw [ar hok.2.2.2 f _ _ ns.length _ hd2 (by rw [List.length_append, hl1, flat_len, sz_tree]; omega) (by rw [List.length_append, hl1, flat_len, sz_tree]; omega) (by omega)]
            rfl
          · rw [tk a hok1 f (p + 1) (ns ++ [(⟨par, emptyS⟩ : Node)]) ns.length _ hd1 (fol_sep ..) (by rw [hl1]; omega) (by rw [hl1]; omega) (by omega)]
            rfl
theorem parse_over {s nm : ByteArray} {k : Fo} (hok : okT nm k) (h : 63 < 1 + k.sz) (hb : bl s = (treeF nm k).tx) : parseR s = none := by
  have hsz := tx_tree_len nm k
  rw [← hb, bl_len] at hsz
  have e := (rd_over s k).2 nm hok (2 * s.size + 2) 0 [] (-1) [] (by rw [List.append_nil]; exact hb) (.inl rfl) (by simpa using h) (by simp) (by omega)
  rw [parseR, e]

/-! 63 nodes beside each other, and one more -/
def leafF : List ByteArray → Fo
  | [] => .nil
  | x :: l => .cons x .nil (leafF l)
theorem leafF_sz : ∀ l, (leafF l).sz = l.length
  | [] => rfl
  | x :: l => by rw [leafF, Fo.sz, leafF_sz l, List.length_cons]; simp [Fo.sz]; omega
theorem leafF_ok : ∀ l : List ByteArray, (∀ x ∈ l, Letters x) → (leafF l).ok
  | [], _ => trivial
  | x :: l, h => ⟨h x (List.mem_cons_self ..), trivial, leafF_ok l fun y hy => h y (List.mem_cons_of_mem _ hy)⟩
theorem leafF_tx : ∀ (x : ByteArray) (l : List ByteArray), (leafF (x :: l)).tx = bl x ++ l.flatMap fun y => 44 :: bl y
  | x, [] => by rw [leafF, Fo.tx]; simp [wrap_nil, leafF, sep_nil]
  | x, y :: l => by
    have ih := leafF_tx y l
    have e : sepR (leafF (y :: l)) (leafF (y :: l)).tx = 44 :: (leafF (y :: l)).tx := rfl
    rw [leafF, Fo.tx, wrap_nil, List.nil_append, e, ih, List.flatMap_cons, List.cons_append]
def wideB : Nat → ByteArray
  | 0 => ⟨#[40, 97]⟩
  | k + 1 => (wideB k ++ ⟨#[44]⟩) ++ nameC (k + 1)
def namesW (n : Nat) : List ByteArray := (List.range n).map fun i => nameC (i + 1)
theorem wideB_bl : ∀ k, bl (wideB k) = 40 :: 97 :: (namesW k).flatMap fun y => 44 :: bl y
  | 0 => rfl
  | k + 1 => by
    have e : namesW (k + 1) = namesW k ++ [nameC (k + 1)] := by simp [namesW, List.range_succ]
    rw [wideB, bl_append, bl_append, wideB_bl k, e, List.flatMap_append]
    simp [bl]
theorem nameC_bl (v : Nat) : bl (nameC v) = 110 :: (List.replicate (v % 8) 111 ++ List.replicate (v / 8) 120) := rfl
theorem nameC_size (v : Nat) : (nameC v).size = 1 + (v % 8 + v / 8) := by
  rw [← bl_len, nameC_bl, List.length_cons, List.length_append, List.length_replicate, List.length_replicate]; omega
theorem wideB_size : ∀ k, k ≤ 64 → (wideB k).size ≤ 2 + 20 * k
  | 0, _ => by decide
  | k + 1, h => by
    have ih := wideB_size k (by omega)
    have h1 := nameC_size (k + 1)
    have e : (wideB (k + 1)).size = (wideB k).size + 1 + (nameC (k + 1)).size := by
      rw [← bl_len, wideB, bl_append, bl_append, List.length_append, List.length_append, bl_len, bl_len]; rfl
    omega
theorem nameC_letters (v : Nat) : Letters (nameC v) := fun b hb => by
  rw [nameC_bl] at hb
  rcases List.mem_cons.1 hb with rfl | hb
  · decide
  · rcases List.mem_append.1 hb with hb | hb
    · rw [List.eq_of_mem_replicate hb]; decide
    · rw [List.eq_of_mem_replicate hb]; decide
theorem lettersA : Letters ⟨#[97]⟩ := fun b hb => by
  have hb : b ∈ [(97 : UInt8)] := hb
  rw [List.mem_singleton.1 hb]; decide
theorem lettersB : Letters ⟨#[98]⟩ := fun b hb => by
  have hb : b ∈ [(98 : UInt8)] := hb
  rw [List.mem_singleton.1 hb]; decide
theorem lettersR : Letters ⟨#[114]⟩ := fun b hb => by
  have hb : b ∈ [(114 : UInt8)] := hb
  rw [List.mem_singleton.1 hb]; decide
theorem namesW_letters (n : Nat) : ∀ x ∈ namesW n, Letters x := fun x hx => by
  obtain ⟨i, _, rfl⟩ := List.mem_map.1 hx
  exact nameC_letters _
abbrev wide1 : ByteArray := wideB 61 ++ ⟨#[41, 114]⟩
abbrev wide2 : ByteArray := wideB 61 ++ ⟨#[44, 98, 41, 114]⟩
abbrev wideT : List Node := (treeF ⟨#[114]⟩ (leafF (⟨#[97]⟩ :: namesW 61))).flat 0 (-1)
theorem wide1_bl : bl wide1 = (treeF ⟨#[114]⟩ (leafF (⟨#[97]⟩ :: namesW 61))).tx := by
  have e : ∀ x, wrapK (leafF (⟨#[97]⟩ :: namesW 61)) x = 40 :: (x ++ [41]) := fun _ => rfl
  rw [wide1, bl_append, wideB_bl, tx_tree, e, leafF_tx]
  simp [bl]
theorem wide2_bl : bl wide2 = (treeF ⟨#[114]⟩ (leafF (⟨#[97]⟩ :: (namesW 61 ++ [⟨#[98]⟩])))).tx := by
  have e : ∀ x, wrapK (leafF (⟨#[97]⟩ :: (namesW 61 ++ [⟨#[98]⟩]))) x = 40 :: (x ++ [41]) := fun _ => rfl
  rw [wide2, bl_append, wideB_bl, tx_tree, e, leafF_tx, List.flatMap_append]
  simp [bl]
theorem wideT_ok : okTree wideT = true := by kernel_rfl
theorem wide1_parse : parseR wide1 = some wideT := parse_of ⟨lettersR, leafF_ok _ fun x hx => by
  rcases List.mem_cons.1 hx with rfl | hx
  · exact lettersA
  · exact namesW_letters _ x hx⟩ wideT_ok wide1_bl
theorem wideT_len : wideT.length = 63 := by
  rw [wideT, flat_len, sz_tree, leafF_sz, List.length_cons, namesW, List.length_map, List.length_range]
theorem wide2_parse : parseR wide2 = none := parse_over ⟨lettersR, leafF_ok _ fun x hx => by
  rcases List.mem_cons.1 hx with rfl | hx
  · exact lettersA
  · rcases List.mem_append.1 hx with hx | hx
    · exact namesW_letters _ x hx
    · rw [List.mem_singleton.1 hx]; exact lettersB⟩ (by rw [leafF_sz, List.length_cons, List.length_append, namesW, List.length_map, List.length_range]; decide) wide2_bl
theorem wide1_size : wide1.size ≤ 65536 := by
  have := wideB_size 61 (by omega)
  rw [← bl_len, wide1, bl_append, List.length_append, bl_len, bl_len]
  show (wideB 61).size + 2 ≤ _
  omega
theorem wide2_size : wide2.size ≤ 65536 := by
  have := wideB_size 61 (by omega)
  rw [← bl_len, wide2, bl_append, List.length_append, bl_len, bl_len]
  show (wideB 61).size + 4 ≤ _
  omega
theorem toolong_size : (repB ⟨#[97]⟩ 65537).size = 65537 := by rw [← bl_len, repB_bl, List.length_replicate]
def oneT : List Node := [⟨-1, longB⟩, ⟨0, ⟨#[97]⟩⟩]
theorem one_parse : parseR (⟨#[40, 97, 41]⟩ ++ longB) = some oneT := by kernel_rfl
theorem one_size : ((⟨#[40, 97, 41]⟩ : ByteArray) ++ longB).size ≤ 65536 := of_decide_eq_true (by kernel_rfl)
theorem parseV_some {s : ByteArray} {t : List Node} (hs : s.size ≤ 65536) (h : parseR s = some t) : parseV s = t ∧ parseE s = 0 := by
  rw [parseV, parseE, if_pos hs, if_pos hs, h]; exact ⟨rfl, rfl⟩
theorem parseV_none {s : ByteArray} (hs : s.size ≤ 65536) (h : parseR s = none) : parseV s = [] ∧ parseE s = 10 := by
  rw [parseV, parseE, if_pos hs, if_pos hs, h]; exact ⟨rfl, rfl⟩
theorem parseV_long {s : ByteArray} (hs : 65536 < s.size) : parseV s = [] ∧ parseE s = 11 := by
  rw [parseV, parseE, if_neg (by omega), if_neg (by omega)]; exact ⟨rfl, rfl⟩

/-! the example -/
def prT : List Node := [⟨-1, ⟨#[120]⟩⟩, ⟨0, ⟨#[97]⟩⟩, ⟨0, ⟨#[98]⟩⟩]
theorem kn_prune : pruneV exT [2, 3] = prT ∧ pruneE exT [2, 3] = 0 := ⟨by kernel_rfl, by kernel_rfl⟩
theorem kn_prune2 : pruneE exT [1] = 3 ∧ pruneE exT [2, 2, 9] = 6 ∧ pruneE exT [2, 9, 2] = 3 ∧ pruneE exT [] = 5 := ⟨by kernel_rfl, by kernel_rfl, by kernel_rfl, by kernel_rfl⟩
theorem kn_find : findV exT ⟨#[99]⟩ = 4 ∧ findE exT ⟨#[99]⟩ = 0 ∧ findE exT ⟨#[]⟩ = 5 := ⟨by kernel_rfl, by kernel_rfl, by kernel_rfl⟩
theorem kn_chk : chkE exT [5, 0] = 3 ∧ chkE exT [-1] = 3 := ⟨by kernel_rfl, by kernel_rfl⟩

end Go.Cp
end
