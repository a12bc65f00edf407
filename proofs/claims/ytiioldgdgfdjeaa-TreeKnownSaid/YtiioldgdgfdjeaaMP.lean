/-
  Soundness of the verification-condition generator: a string's bytes are put behind an own slice. Conditions: none.
  Soundness of the verification-condition generator, tenth part: composites. Conditions: none.
  Soundness of the verification-condition generator, eleventh part: calls; each operation. Conditions: none.
  Soundness of the verification-condition generator: maps. Conditions: none.
  Soundness of the verification-condition generator, twelfth part: whatever operation; a guarded one. Conditions: none.
  Soundness of the verification-condition generator, thirteenth part: what an operation looks at; paths in the text's order. Conditions: none.
  Soundness of the verification-condition generator, fourteenth part: a region whose operations run in whatever order their ties leave comes to what the text's order comes to. Conditions: none.
  Soundness of the verification-condition generator, fifteenth part: regions. Conditions: none.
  Regions that draw their order, whose last operations are tied behind all that is ahead of them: a first part in any order, the rest in the text's. Conditions: none.
-/
import Derived.Test.YtiioldgdgfdjeaaMB
import Derived.Lib.AppendStr
import Derived.Great.BuildSlice
import Derived.Orders

section
set_option linter.unusedVariables false
set_option linter.unusedSimpArgs false
namespace Go.Vx
open Go Go.RowKit Go.Lib

section
variable {P : Program} (w : World)
/-- append of a string's bytes, and where the new slice lies (after the kit's law) -/
theorem run_append_own_string_at (base : Nat) (t u ty e : TypeId) (i : TypeInfo) (ht : P.underlying t = some (.slice e)) (hu : P.underlying u = some .string) (hi : P.info? e = some i) (hz : i.zero = some (.int .u8 0))
    (hsize : i.size = 1) (hby : i.bytes = 1) (v : Value) (n : Nat) (xs : List Value) (hown : w.ownsRow base e 1 v n xs) (s : ByteArray)
    (h63 : n + s.size ≤ maxLen) (hbytes : n + s.size ≤ 140737488355328) (hbase : base ≤ w.heap.size) :
    ∃ v' w', (Builtin.append_ #[t, u] ty #[v, .string s]).run P w = .ok v' w' ∧ w'.ownsRow base e 1 v' (n + s.size) (xs ++ strCells s) ∧ w.grownBy w' v.ownBlock ∧ (v'.ownBlock = v.ownBlock ∨ v'.ownBlock = some w.heap.size) := by
  have hsmall : n + s.size ≤ 9223372036854775807 := by simp only [maxLen] at h63; omega
  have hxl : xs.length = n := by simpa using hown.1
  have hlen : (xs ++ strCells s).length = (n + s.size) * 1 := by rw [List.length_append, hxl, strCells_length, Nat.mul_one]
  have grown : ∀ (old : Nat), old < n + s.size → ∀ (row : Option Nat),
      (w.drew.alloc (.cells (xs.toArray ++ (strCells s).toArray ++ Builtin.zeroCells (Value.int .u8 0).cells (grownCap w (n + s.size) old e - (n + s.size))) e)).ownsRow base e 1
        (.slice (some ⟨w.heap.size, 0, none⟩) (n + s.size) (grownCap w (n + s.size) old e)) (n + s.size) (xs ++ strCells s) ∧
      w.grownBy (w.drew.alloc (.cells (xs.toArray ++ (strCells s).toArray ++ Builtin.zeroCells (Value.int .u8 0).cells (grownCap w (n + s.size) old e - (n + s.size))) e)) row := by
    intro old ho row
    have hge := grownCap_ge w (n + s.size) old e
    have hcm : grownCap w (n + s.size) old e ≤ maxLen := grownCap_le_maxLen w (n + s.size) old e h63
    refine ⟨⟨hlen, .inr ⟨w.heap.size, _, _, rfl, hbase, heap_alloc_new w.drew _, hge, hcm, ?_, ?_⟩⟩, ⟨rfl, rfl, rfl, by simp, fun k hk _ => heap_alloc_old w.drew _ hk⟩⟩
    · have hz1 : (Value.int IntKind.u8 0).cells.size = 1 := rfl
      simp only [Array.size_append, List.size_toArray, size_zeroCells, hz1, hxl, strCells_length]
      omega
    · simp only [Array.toList_append, List.append_assoc]
      rw [← List.append_assoc, ← hlen]
      exact List.take_left
  rcases hown.2 with ⟨rfl, rfl⟩ | ⟨g, cap, cur, rfl, hbg, hg, hnc, hcm, hcs, htake⟩
  · have hx : xs = [] := List.eq_nil_of_length_eq_zero hxl
    subst hx
    by_cases hm : s.size = 0
    · have hn : strCells s = [] := List.eq_nil_of_length_eq_zero (by rw [strCells_length]; exact hm)
      refine ⟨.slice none 0 0, w, ?_, by rw [hm, hn]; exact World.ownsRow_nil w base e 1, ⟨rfl, rfl, rfl, Nat.le_refl _, fun _ _ _ => rfl⟩, .inl rfl⟩
      have hf := run_firstCells_string (P := P) w 1 s
      rw [hm] at hf
      simp [Builtin.append_, run_underlying ht, run_underlying hu, sizeOf, typeInfo, hi, hsize, Builtin.lenOf, hm, hf]
    · have hr := run_append_nil_string (P := P) w t u ty e i (.int .u8 0) ht hu hi hz s (by omega) (by omega) (by rw [hby]; omega)
      have hgr := grown 0 (by omega) (Value.ownBlock (.slice none 0 0))
      simp only [Nat.zero_add, List.nil_append, Array.empty_append] at hgr ⊢
      have e1 : (s.data.map fun b => Value.int .u8 b.toNat) = (strCells s).toArray := by
        apply Array.ext'
        simp [strCells]
      rw [e1] at hr
      exact ⟨_, _, hr, hgr.1, hgr.2, .inr rfl⟩
  · by_cases hroom : n + s.size ≤ cap
    · have hcs' : cur.size = cap := by simpa using hcs
      have hr := run_append_room_string (P := P) w t u ty e i ht hu hi hsize g n cap cur hg s hroom (by omega)
      refine ⟨_, _, hr, ⟨hlen, .inr ⟨g, cap, _, rfl, hbg, setRow_heap w g cur _ e _ hg, hroom, hcm, ?_, ?_⟩⟩, ⟨rfl, rfl, rfl, by simp, fun k _ hk => setRow_other w g k _ (fun e => hk (by simp [Value.ownBlock, e]))⟩, .inl rfl⟩
      · simp only [List.size_toArray, List.length_append, List.length_take, List.length_drop, Array.length_toList, strCells_length]
        omega
      · have ht' : cur.toList.take n = xs := by simpa using htake
        rw [ht', ← hlen]
        exact List.take_left
    · have holds : ∀ j u, xs[j]? = some u → w.cell? ((⟨g, 0, none⟩ : Addr).add j) = some u := hown.cells (g := g) rfl
      have hr := run_append_grow_string (P := P) w t u ty e i (.int .u8 0) ht hu hi hz ⟨g, 0, none⟩ n cap xs (by rw [hsize]; simpa using hxl) holds s (by omega) (by omega) (by rw [hby]; exact growslice_fits (by omega) (by omega))
      have hgr := grown cap (by omega) (Value.ownBlock (.slice (some ⟨g, 0, none⟩) n cap))
      exact ⟨_, _, hr, hgr.1, hgr.2, .inr rfl⟩
end

section
variable {X : Ctx} {s : S} {a : Act} {w : World} {β : Nat → Value} {o : Oper} {d : Nat} {bb : Box} {v : AV} {u : Upd}

theorem strD_len (s : ByteArray) : (strD s).length = s.size := by rw [strD, List.length_map, Array.length_toList]; rfl
theorem strD_all (s : ByteArray) : AllLen 1 (strD s) := fun y hy => by
  rw [strD, List.mem_map] at hy
  obtain ⟨b, _, rfl⟩ := hy
  rfl
theorem strD_at {s : ByteArray} {M : Nat → Prop} : ∀ i y j d, (strD s)[i]? = some y → y[j]? = some d → Rp w M ((strCells s).getD (i * 1 + j) undef) d := fun i y j d hy hd => by
  rw [strD, List.getElem?_map] at hy
  cases hb : s.data.toList[i]? with
  | none => rw [hb] at hy; cases hy
  | some b =>
    rw [hb] at hy
    simp only [Option.map_some, Option.some.injEq] at hy
    subst hy
    cases j with
    | zero =>
      simp only [List.getElem?_cons_zero, Option.some.injEq] at hd
      subst hd
      have e : (strCells s).getD (i * 1 + 0) undef = .int .u8 b.toNat := by
        rw [Nat.mul_one, Nat.add_zero, strCells, List.getD_eq_getElem?_getD, List.getElem?_map, hb]; rfl
      rw [e]
      exact .sc _ rfl
    | succ j => simp at hd

theorem byteT_some {t : Option TI} (h : byteT t = true) : ∃ ow, t = some ⟨1, 1, [.int .u8 0], .int .u8, ow⟩ := by
  unfold byteT at h
  split at h
  · exact ⟨_, rfl⟩
  · cases h
theorem strT_some {t : Option TI} (h : strT t = true) : ∃ ti, t = some ti ∧ ti.kind = .str := by
  unfold strT at h
  split at h
  · exact ⟨_, rfl, rfl⟩
  · cases h

theorem m_appStr (h : Inv X s a w β) (hE : EnvOK X.P X.E) {x y : Operand} {t t' : Nat} {args : Array Operand} {ts : Array Nat} (hargs : args.toList = [x, y]) (hts : ts.toList = [t, t']) (ho : o.op = .call ⟨.builtin .append, args, ts⟩)
    (hg : Gets X.P X.E d bb (appStr X.E s.bx d (ev s.fr x) (ev s.fr y) (X.E t) (X.E t')) v u) : Moves X s a w o v u := by
  have ha : args = #[x, y] := by rw [← Array.toArray_toList (xs := args), hargs]
  have ht : ts = #[t, t'] := by rw [← Array.toArray_toList (xs := ts), hts]
  subst ha; subst ht
  unfold appStr at hg
  split at hg
  · rename_i sz by_ z e ow hT
    obtain ⟨hc, hg⟩ := cond_val hg
    simp only [Bool.and_eq_true] at hc
    obtain ⟨ow2, hEe⟩ := byteT_some hc.1
    obtain ⟨ti', hT', hk'⟩ := strT_some hc.2
    have hty := hE t _ hT
    obtain ⟨hu, _, _⟩ := KindOK.slice hty rfl
    have hu' := (KindOK.str (hE t' ti' hT') hk').1
    have hte := hE e _ hEe
    obtain ⟨i, z', h1, h2, h3, h4, h5⟩ := hte.info
    have hz1 := hte.one rfl i z' h1 h4
    have hz : i.zero = some (.int .u8 0) := by
      rw [h4]
      congr 1
      have e1 : z'.cells = #[z'] := by cases z' <;> first | rfl | cases hz1
      rw [e1] at h5
      simpa using h5
    have hrun : ∀ v' w', (Builtin.append_ #[t, t'] o.type #[a.eval x, a.eval y]).run X.P w = .ok v' w' → (execOp a.eval o).run X.P w = .ok (.value v') w' := fun v' w' hn => blt_val ho (fun c => rfl) (by simpa using hn)
    unfold appSY at hg
    split at hg
    · rename_i str hy
      have hyv : a.eval y = .string str := by
        have := h.ev y
        rw [hy] at this
        generalize a.eval y = vy at this
        cases this.to_c; rfl
      have hfin : ∀ (id ver : Nat) (xs : List (List D)) (flat : List Value) (v0 : Value), a.eval x = v0 → w.ownsRow 0 e 1 v0 xs.length flat → (∀ x ∈ xs, x.length = 1) →
          ((lookB id s.bx = .dead ∧ v0.ownBlock = none) ∨ (∃ v1 xs1, lookB id s.bx = .arr e v1 xs1 ∧ v1 < ver ∧ β id = v0)) → flat.length = xs.length * 1 →
          (∀ i x j d, xs[i]? = some x → x[j]? = some d → Rp w (MM X (lookB · s.bx) β) (flat.getD (i * 1 + j) undef) d) → (xs.length + (strD str).length) * 1 ≤ 140737488355328 → v0.ownBlock = blk v0 →
          Moves X s a w o (.osl id ver) [(id, .arr e ver (xs ++ strD str))] := fun id ver xs flat v0 hxv hown hlen hb hfl hr hn hv0 => by
        rw [strD_len, Nat.mul_one] at hn
        obtain ⟨v', w', hr2, hown2, hgr, hblk⟩ := run_append_own_string_at (P := X.P) w 0 t t' o.type e i hu hu' h1 hz h2 h3 v0 xs.length flat hown str (by simp only [maxLen]; omega) hn (Nat.zero_le _)
        obtain ⟨g1, g2⟩ := grow_inv h (id := id) (ver := ver) (te := ⟨1, 1, [.int .u8 0], .int .u8, ow2⟩) (xs := xs) (ys := strD str) (flat := flat) (news := strCells str) hEe (by show 0 < 1; omega) hlen (strD_all str) hb hfl hr
          (by rw [List.length_append, strD_len]; exact hown2) hgr hblk (fun i y j d hy hd => strD_at i y j d hy hd) hv0
        exact ⟨_, v', w', _, hrun _ _ (by rw [hxv, hyv]; exact hr2), .inl rfl, g1, g2⟩
      unfold appSX at hg
      split at hg
      · rename_i hx
        unfold appN at hg
        obtain ⟨hd, hg⟩ := dead_of hg
        unfold appR at hg
        obtain ⟨⟨hn, _⟩, hg⟩ := hg
        obtain ⟨rfl, rfl⟩ := hg
        have hxv : a.eval x = .slice none 0 0 := by
          have := h.ev x
          rw [hx] at this
          generalize a.eval x = vx at this
          cases this.to_c; rfl
        exact hfin d 1 [] [] _ hxv (World.ownsRow_nil w 0 e 1) (by simp) (.inl ⟨hd, rfl⟩) (by simp) (by simp) hn rfl
      · rename_i id ver hx
        unfold appO at hg
        split at hg
        · rename_i e' v1 xs hl
          obtain ⟨hc, hg⟩ := cond_val hg
          simp only [Bool.and_eq_true, beq_iff_eq] at hc
          obtain ⟨hve, rfl⟩ := hc
          unfold appR at hg
          obtain ⟨⟨hn, _⟩, hg⟩ := hg
          obtain ⟨rfl, rfl⟩ := hg
          have hbox := h.box id
          rw [hl] at hbox
          obtain ⟨te', flat, hEe', h0', hlen, hown0, hok, hr0⟩ := hbox
          rw [hEe] at hEe'
          injection hEe' with hEe'
          subst hEe'
          have hxv : a.eval x = β id := by
            have := h.ev x
            rw [hx] at this
            generalize a.eval x = vx at this
            cases this with
            | osl _ _ _ h1 hok =>
              rw [hl] at hok
              exact hok.2 hve.symm
          subst hve
          exact hfin id (v1 + 1) xs flat _ hxv hown0 hlen (.inr ⟨v1, xs, hl, by omega, rfl⟩) hown0.1 hr0 hn (own_blk hown0).1
        · exact hg.elim
      · exact hg.elim
    · exact hg.elim
  · exact hg.elim
end
end Go.Vx
end

section
set_option linter.unusedVariables false
set_option linter.unusedSimpArgs false
namespace Go.Vx
open Go Go.RowKit

theorem live_frz {bx : List (Nat × Box)} : ∀ {u : Upd}, FrzL bx u → ∀ {id : Nat}, live (lookB id (u ++ bx)) = true → live (lookB id bx) = true ∧ ∀ p ∈ u, p.1 ≠ id
  | [], _, _, h => ⟨h, fun p hp => by cases hp⟩
  | p :: r, hu, id, h => by
    rw [List.cons_append, lookB_cons] at h
    by_cases hi : id = p.1
    · rw [if_pos hi] at h
      obtain ⟨v, xs, h1, _⟩ := hu p (List.mem_cons_self ..)
      rw [h1] at h; cases h
    · rw [if_neg hi] at h
      obtain ⟨h1, h2⟩ := live_frz (fun q hq => hu q (List.mem_cons_of_mem _ hq)) h
      refine ⟨h1, fun q hq => ?_⟩
      rcases List.mem_cons.1 hq with rfl | hq
      · exact fun e => hi e.symm
      · exact h2 q hq

theorem notkey {bx : List (Nat × Box)} : ∀ {u : Upd} {id : Nat}, (∀ p ∈ u, p.1 ≠ id) → lookB id (u ++ bx) = lookB id bx
  | [], _, _ => rfl
  | p :: r, id, h => by
    rw [List.cons_append, lookB_cons, if_neg (fun e => h p (List.mem_cons_self ..) e.symm)]
    exact notkey fun q hq => h q (List.mem_cons_of_mem _ hq)

/-- more frozen, and it is by value the same -/
theorem frz_mono {X : Ctx} {bx : List (Nat × Box)} {w : World} {β : Nat → Value} {u u' : Upd} (hu : FrzL bx u) (hs : ∀ p ∈ u', p ∈ u) {v : Value} {d : D} (hr : Rp w (MM X (lookB · (u' ++ bx)) β) v d) : Rp w (MM X (lookB · (u ++ bx)) β) v d := by
  refine hr.keep fun k hk hM => ⟨rfl, ?_⟩
  rintro (h0 | ⟨id, hl, hb⟩)
  · exact hM (.inl h0)
  · obtain ⟨h1, h2⟩ := live_frz hu hl
    refine hM (.inr ⟨id, ?_, hb⟩)
    show live (lookB id (u' ++ bx)) = true
    rw [notkey fun p hp => h2 p (hs p hp)]; exact h1

theorem CellsAre.one {w : World} {M : Nat → Prop} {v : Value} {ds : List D} (h : CellsAre w M v ds) : ∀ c ∈ v.cells.toList, c.oneCell' = true := fun c hc => by
  obtain ⟨j, hj⟩ := List.getElem?_of_mem hc
  have hlt := (List.getElem?_eq_some_iff.1 hj).1
  rw [Array.length_toList (xs := v.cells), h.1] at hlt
  have := (h.2 j _ (one_getD hlt)).one
  have e2 : v.cells.getD j undef = c := by
    rw [Array.getElem?_toList] at hj
    simp [Array.getD_eq_getD_getElem?, hj]
  rw [e2] at this; exact this

section
variable {X : Ctx} {s : S} {a : Act} {w : World} {β : Nat → Value} {o : Oper} {d : Nat} {bb : Box} {v : AV} {u : Upd}

/-- cells, each as an abstract value says -/
def CellsA (w : World) (M : Nat → Prop) (β : Nat → Value) (lk : Nat → Box) (cs : Array Value) (l : List AV) : Prop := cs.size = l.length ∧ ∀ (j : Nat) av, l[j]? = some av → (cs.getD j undef).oneCell' = true ∧ RV w M β lk (cs.getD j undef) av

theorem CellsA.single {M : Nat → Prop} {lk : Nat → Box} {vx : Value} {av : AV} (h1 : vx.oneCell' = true) (h : RV w M β lk vx av) : CellsA w M β lk vx.cells [av] := by
  rw [cells_one h1]
  refine ⟨rfl, fun j av' hj => ?_⟩
  cases j with
  | zero =>
    simp only [List.getElem?_cons_zero, Option.some.injEq] at hj
    subst hj
    exact ⟨h1, h⟩
  | succ j => simp at hj

theorem partC_sound (h : Inv X s a w β) {av : AV} {l : List AV} {vx : Value} (hv : RV w (MM X (lookB · s.bx) β) β (lookB · s.bx) vx av) (hp : partC s.bx av = some l) : CellsA w (MM X (lookB · s.bx) β) β (lookB · s.bx) vx.cells l := by
  unfold partC at hp
  split at hp
  · simp only [Option.some.injEq] at hp
    subst hp
    cases hv with
    | ag cs ds0 hs hr =>
      rename_i ds
      refine ⟨by show cs.size = _; rw [hs, List.length_map], fun j av hj => ?_⟩
      rw [List.getElem?_map] at hj
      cases hd : ds[j]? with
      | none => rw [hd] at hj; cases hj
      | some dd =>
        rw [hd] at hj
        simp only [Option.map_some, Option.some.injEq] at hj
        subst hj
        exact ⟨(hr j dd hd).one, .c _ _ (hr j dd hd)⟩
  · simp only [Option.some.injEq] at hp
    subst hp
    have hn : vx = .slice none 0 0 := by cases hv.to_c; rfl
    subst hn
    exact CellsA.single rfl (.c _ _ (Rp.nil _ _))
  · simp only [Option.some.injEq] at hp
    subst hp
    exact CellsA.single hv.to_c.one hv
  · rename_i id ver
    unfold partB at hp
    split at hp
    · rename_i e v' xs hl
      cases hc : (v' == ver) <;> rw [hc] at hp
      · cases hp
      · simp only [cond_true, Option.some.injEq] at hp
        subst hp
        exact CellsA.single (hv.oneCell rfl) hv
    · rename_i e v' r rows hl
      cases hc : (v' == ver) <;> rw [hc] at hp
      · cases hp
      · simp only [cond_true, Option.some.injEq] at hp
        subst hp
        exact CellsA.single (hv.oneCell rfl) hv
    · rename_i v' xs hl
      cases hc : (v' == ver) <;> rw [hc] at hp
      · cases hp
      · simp only [cond_true, Option.some.injEq] at hp
        subst hp
        have hve : v' = ver := by simpa using hc
        have hbox := h.box id
        rw [hl] at hbox
        cases hv with
        | osl _ _ _ h1 hok =>
          simp only [hl] at hok
          have := hok.2 hve.symm
          subst this
          exact CellsA.single h1 (.c _ _ hbox)
    · cases hp
  · simp only [Option.some.injEq] at hp
    subst hp
    exact CellsA.single (hv.oneCell rfl) hv
  · simp only [Option.some.injEq] at hp
    subst hp
    exact CellsA.single (hv.oneCell rfl) hv
  · simp only [Option.some.injEq] at hp
    subst hp
    exact CellsA.single (hv.oneCell rfl) hv
  · rename_i vs
    cases hc : cellsTop vs <;> rw [hc] at hp
    · cases hp
    · simp only [cond_true, Option.some.injEq] at hp
      subst hp
      cases hv with
      | agv cs _ hs h1 hr => exact ⟨hs, fun j av hj => ⟨h1 j av hj, hr j av hj⟩⟩
  · cases hp

/-- what 'fill' yields, cell by cell -/
theorem fill_sound (h : Inv X s a w β) (kd : TK) : ∀ (ps : List (Nat × Operand)) (ds : List AV), Gets X.P X.E d bb (fillCs X.E (partsOf X.E s.bx s.fr kd ps) ds) v u →
    ∃ dsF, Gets X.P X.E d bb (fillEnd dsF (allD dsF)) v u ∧ ∀ cs : Array Value, CellsA w (MM X (lookB · s.bx) β) β (lookB · s.bx) cs ds →
      ∃ csF, Instr.fill (fun i => (placeOf X.E kd i).map fun p => (p.1, szOf (X.E p.2))) cs (ps.map fun p => (p.1, a.eval p.2)) = some csF ∧ CellsA w (MM X (lookB · s.bx) β) β (lookB · s.bx) csF dsF
  | [], ds, hg => by
    simp only [partsOf, fillCs] at hg
    exact ⟨ds, hg, fun cs hcs => ⟨cs, rfl, hcs⟩⟩
  | (i, x) :: r, ds, hg => by
    simp only [partsOf] at hg
    cases hf : placeOf X.E kd i with
    | none => rw [hf] at hg; exact hg.elim
    | some p =>
      rw [hf] at hg
      cases hx : partC s.bx (ev s.fr x) with
      | none => rw [hx] at hg; exact hg.elim
      | some xs =>
        rw [hx] at hg
        simp only [fillCs] at hg
        obtain ⟨hc, hg⟩ := cond_val hg
        simp only [Bool.and_eq_true, beq_iff_eq, decide_eq_true_eq] at hc
        have hcx := partC_sound h (h.ev x) hx
        obtain ⟨dsF, h3, h4⟩ := fill_sound h kd r _ hg
        refine ⟨dsF, h3, fun cs hcs => ?_⟩
        have hfold := Great.foldl_set p.1 (a.eval x).cells.toList 0 cs
        have hxl : (a.eval x).cells.toList.length = xs.length := by rw [Array.length_toList]; exact hcx.1
        obtain ⟨csF, e1, e2⟩ := h4 (((a.eval x).cells.toList.zipIdx 0).foldl (fun cs (y : Value × Nat) => cs.setIfInBounds (p.1 + y.2) y.1) cs) ⟨by
          rw [hfold.1, hcs.1]; exact (splice_len _ _ _ hc.2).symm, fun j dd hj => by
          unfold spliceA at hj
          rw [splice_at _ _ _ _ hc.2] at hj
          rw [Array.getD_eq_getD_getElem?, hfold.2 j, hxl, hcs.1]
          by_cases h5 : j < p.1
          · rw [if_pos h5] at hj
            rw [if_neg (by omega), ← Array.getD_eq_getD_getElem?]
            exact hcs.2 j dd hj
          · rw [if_neg h5] at hj
            by_cases h6 : j < p.1 + xs.length
            · rw [if_pos h6] at hj
              rw [if_pos (by omega)]
              have := hcx.2 (j - p.1) dd hj
              have e3 : ((a.eval x).cells.toList[j - (p.1 + 0)]?).getD undef = (a.eval x).cells.getD (j - p.1) undef := by
                simp [Array.getD_eq_getD_getElem?]
              rw [e3]
              exact this
            · rw [if_neg h6] at hj
              rw [if_neg (by omega), ← Array.getD_eq_getD_getElem?]
              exact hcs.2 j dd hj⟩
        refine ⟨csF, ?_, e2⟩
        have e4 : (a.eval x).cells.zipIdx.foldl (fun cs (y : Value × Nat) => cs.setIfInBounds (p.1 + y.2) y.1) cs = ((a.eval x).cells.toList.zipIdx 0).foldl (fun cs (y : Value × Nat) => cs.setIfInBounds (p.1 + y.2) y.1) cs := by
          rw [← Array.foldl_toList, Array.toList_zipIdx]
        simp only [List.map_cons, Instr.fill, hf, Option.map_some]
        rw [if_neg (by
          have e5 : (a.eval x).cells.size = xs.length := hcx.1
          simp only [e5, hcs.1, Bool.or_eq_true, decide_eq_true_eq]
          omega)]
        rw [e4]; exact e1

theorem places_of {P : Program} {E : Env} (hE : EnvOK P E) {n : Nat} : ∀ (fields : List Field) (fs : List (Nat × Nat)), FieldsOK E n fields fs →
    fields.mapM (fun f => (P.info? f.type).map fun i => (f.offset, i.size)) = some (fs.map fun p => (p.1, szOf (E p.2)))
  | [], fs, h => by
    obtain ⟨h1, _⟩ := h
    simp only [List.map_nil] at h1
    subst h1; rfl
  | f :: r, fs, h => by
    obtain ⟨h1, h2⟩ := h
    obtain ⟨_, ti, hti, _⟩ := h2 f (List.mem_cons_self ..)
    obtain ⟨i, z, e1, e2, _⟩ := (hE _ _ hti).info
    have hr := places_of hE (n := n) r _ ⟨rfl, fun g hg => h2 g (List.mem_cons_of_mem _ hg)⟩
    rw [← h1, List.mapM_cons, e1, hr]
    simp [szOf, hti, e2]

theorem m_build (h : Inv X s a w β) (hE : EnvOK X.P X.E) {t : Nat} {ps : Array (Nat × Operand)} (ho : o.op = .build t ps) (hg : Gets X.P X.E d bb (buildAV X.E s.bx s.fr ps.toList (X.E t)) v u) : Moves X s a w o v u := by
  unfold buildAV at hg
  split at hg
  · rename_i ti hT
    have hty := hE t ti hT
    obtain ⟨hag, hg⟩ := cond_val hg
    obtain ⟨dsF, hend, hfill⟩ := fill_sound h ti.kind ps.toList _ hg
    obtain ⟨i, z, h1, h2, h3, h4, h5⟩ := hty.info
    obtain ⟨csF, e1, e2⟩ := hfill z.cells ⟨by rw [h5]; simp, fun j dd hj => by
      rw [List.getElem?_map] at hj
      cases hz : ti.zero[j]? with
      | none => rw [hz] at hj; cases hj
      | some zv =>
        rw [hz] at hj
        simp only [Option.map_some, Option.some.injEq] at hj
        subst hj
        rw [h5, getD_toList, hz]
        have hz1 := hty.zero.2 zv (List.mem_of_getElem? hz)
        exact ⟨hz1, .c _ _ (.sc _ hz1)⟩⟩
    have hb : X.P.built t (ps.map fun (i, x) => (i, a.eval x)).toList = some csF := by
      rw [Array.toList_map]
      cases hk : ti.kind <;> rw [hk] at hag e1 <;> try (cases hag; done)
      case struct fs =>
        obtain ⟨fields, hu, hfo, _⟩ := KindOK.struct hty hk
        unfold Program.built
        simp only [h1, hu, h4, places_of hE _ _ hfo]
        have e4 : (fun (x : Nat) => (List.map (fun p => (p.1, szOf (X.E p.2))) fs).toArray[x]?) = (fun i => (placeOf X.E (.struct fs) i).map fun p => (p.1, szOf (X.E p.2))) := by
          funext x
          simp [placeOf]
        rw [e4]
        exact e1
      case array n e =>
        obtain ⟨hu, _, te, hte, _⟩ := KindOK.array hty hk
        obtain ⟨ie, ze, g1, g2, _⟩ := (hE e te hte).info
        unfold Program.built
        simp only [h1, hu, h4, g1]
        have e4 : (fun (i : Nat) => some (i * ie.size, ie.size)) = (fun i => (placeOf X.E (.array n e) i).map fun p => (p.1, szOf (X.E p.2))) := by
          funext x
          simp [placeOf, hte, szOf, g2]
        rw [e4]
        exact e1
    have hres : u = [] ∧ RV w (MM X (lookB · s.bx) β) β (lookB · s.bx) (.agg csF) v := by
      cases hal : allD dsF with
      | some ds =>
        rw [hal] at hend
        obtain ⟨rfl, rfl⟩ := hend
        have hcs := allD_some hal
        exact ⟨rfl, .ag _ _ (by rw [e2.1, hcs, List.length_map]) fun j dd hj => (e2.2 j (.c dd) (by rw [hcs, List.getElem?_map, hj]; rfl)).2.to_c⟩
      | none =>
        rw [hal] at hend
        obtain ⟨rfl, rfl⟩ := hend
        exact ⟨rfl, .agv _ _ e2.1 (fun j av hj => (e2.2 j av hj).1) fun j av hj => (e2.2 j av hj).2⟩
    obtain ⟨rfl, hrv⟩ := hres
    refine ⟨_, .agg csF, w, β, ?_, .inl rfl, h, hrv⟩
    simp only [execOp, ho, Sem.run_bind, run_build w t _ _ hb, Result.andThen_ok, Sem.run_pure]
  · exact hg.elim

/-! ### slice literals -/
theorem rows_sound (h : Inv X s a w β) {e sz n : Nat} : ∀ (ps : List (Nat × Operand)) (k : Nat) (rows : List (List D)) (u0 : Upd), FrzL s.bx u0 → Gets X.P X.E d bb (fillRows d e sz n (rowsOf s.bx s.fr ps) k rows u0) v u →
    ∃ uF rowsF, FrzL s.bx uF ∧ (∀ p ∈ u0, p ∈ uF) ∧ v = .osl d 0 ∧ u = (d, .arr e 0 (rows ++ rowsF)) :: uF ∧ k + rowsF.length = n ∧ rowsF.length = ps.length ∧
      ps.map (fun p => (p.1, a.eval p.2)) = (((ps.map fun p => a.eval p.2).zipIdx k).map fun x => (x.2, x.1)) ∧
      (∀ x ∈ rowsF, x.length = sz) ∧ ∀ (i : Nat) (p : Nat × Operand) x, ps[i]? = some p → rowsF[i]? = some x → CellsAre w (MM X (lookB · (uF ++ s.bx)) β) (a.eval p.2) x
  | [], k, rows, u0, hu0, hg => by
    simp only [rowsOf, fillRows] at hg
    obtain ⟨hk, hg⟩ := beq_val hg
    obtain ⟨rfl, rfl⟩ := hg
    exact ⟨u0, [], hu0, fun _ hp => hp, rfl, by rw [List.append_nil], by simpa using hk, rfl, rfl, by simp, fun i p x hp => by simp at hp⟩
  | (i, x) :: r, k, rows, u0, hu0, hg => by
    simp only [rowsOf] at hg
    cases hx : toDs s.bx (ev s.fr x) with
    | none => rw [hx] at hg; exact hg.elim
    | some q =>
      obtain ⟨xs, u'⟩ := q
      rw [hx] at hg
      simp only [fillRows] at hg
      obtain ⟨hc, hg⟩ := cond_val hg
      simp only [Bool.and_eq_true, beq_iff_eq] at hc
      obtain ⟨rfl, hxl⟩ := hc
      obtain ⟨hu', hcx⟩ := toDs_sound h (h.ev x) hx
      obtain ⟨uF, rowsF, h1, h2, h3, h4, h5, h6, h7, h8, h9⟩ := rows_sound h r (i + 1) _ (u' ++ u0) (hu'.append hu0) hg
      refine ⟨uF, xs :: rowsF, h1, fun q hq => h2 q (List.mem_append_right _ hq), h3, ?_, ?_, ?_, ?_, ?_, ?_⟩
      · rw [h4, List.append_assoc]; rfl
      · simp only [List.length_cons]; omega
      · simp [h6]
      · simp only [List.map_cons, List.zipIdx_cons, List.map_cons]
        rw [h7]
      · intro y hy
        rcases List.mem_cons.1 hy with rfl | hy
        · exact hxl
        · exact h8 y hy
      · intro i' p y hp hy
        cases i' with
        | zero =>
          simp only [List.getElem?_cons_zero, Option.some.injEq] at hp hy
          subst hp; subst hy
          exact ⟨hcx.1, fun j dd hd => frz_mono h1 (fun q hq => h2 q (List.mem_append_left _ hq)) (hcx.2 j dd hd)⟩
        | succ i' =>
          simp only [List.getElem?_cons_succ] at hp hy
          exact h9 i' p y hp hy

/-! slice literals of own slices -/
theorem nests_sound {e' e n : Nat} : ∀ (ps : List (Nat × Operand)) (k : Nat) (L0 : List (Nat × (Nat × List (List D)))), (L0.map (·.1)).Nodup → Gets X.P X.E d bb (fillNest d e n (nestsOf e' s.bx s.fr ps) k (L0.map (·.2.2)) (gone e' L0)) v u →
    ∃ L, v = .osl d 0 ∧ u = (d, .nest e 0 0 none ((L0 ++ L).map (·.2.2))) :: gone e' (L0 ++ L) ∧ k + L.length = n ∧ L.length = ps.length ∧
      ps.map (fun p => (p.1, a.eval p.2)) = (((ps.map fun p => a.eval p.2).zipIdx k).map fun x => (x.2, x.1)) ∧ ((L0 ++ L).map (·.1)).Nodup ∧
      ∀ (i : Nat) (p : Nat × Operand) q, ps[i]? = some p → L[i]? = some q → ev s.fr p.2 = .osl q.1 q.2.1 ∧ lookB q.1 s.bx = .arr e' q.2.1 q.2.2
  | [], k, L0, hnd, hg => by
    simp only [nestsOf, fillNest] at hg
    obtain ⟨hk, hg⟩ := beq_val hg
    obtain ⟨rfl, rfl⟩ := hg
    exact ⟨[], rfl, by rw [List.append_nil], by simpa using hk, rfl, rfl, by simpa using hnd, fun i p q hp => by simp at hp⟩
  | (i, x) :: r, k, L0, hnd, hg => by
    simp only [nestsOf] at hg
    cases hx : rowA e' s.bx (ev s.fr x) with
    | none => rw [hx] at hg; exact hg.elim
    | some q =>
      obtain ⟨xs, pp⟩ := q
      rw [hx] at hg
      simp only [fillNest] at hg
      obtain ⟨hc, hg⟩ := cond_val hg
      simp only [Bool.and_eq_true, beq_iff_eq] at hc
      obtain ⟨rfl, hni⟩ := hc
      unfold rowA at hx
      split at hx
      · rename_i id ver he
        unfold rowO at hx
        split at hx
        · rename_i e1 v1 xs1 hl
          cases hcc : (v1 == ver && e1 == e') <;> rw [hcc] at hx
          · cases hx
          · simp only [Bool.and_eq_true, beq_iff_eq] at hcc
            obtain ⟨rfl, rfl⟩ := hcc
            simp only [cond_true, Option.some.injEq, Prod.mk.injEq] at hx
            obtain ⟨rfl, rfl⟩ := hx
            have hg1 : gone e1 L0 ++ [(id, Box.arr e1 (v1 + 1) [])] = gone e1 (L0 ++ [(id, (v1, xs1))]) := by simp [gone, goneA, goneG]
            have hg2 : L0.map (·.2.2) ++ [xs1] = (L0 ++ [(id, (v1, xs1))]).map (·.2.2) := by simp
            rw [hg1, hg2] at hg
            have hnotin : ∀ q ∈ L0, q.1 ≠ id := by
              have hgen : ∀ (l : List (Nat × (Nat × List (List D)))), notIn id (gone e1 l) = true → ∀ q ∈ l, q.1 ≠ id := by
                intro l
                induction l with
                | nil => intro _ q hq; cases hq
                | cons q0 l ih =>
                  intro hh q hq
                  have hh : (cond (id == q0.1) false (notIn id (gone e1 l))) = true := hh
                  cases hi : (id == q0.1) <;> rw [hi] at hh
                  · rcases List.mem_cons.1 hq with rfl | hq
                    · intro e; rw [e] at hi; simp at hi
                    · exact ih hh q hq
                  · cases hh
              exact hgen L0 hni
            have hnd' : ((L0 ++ [(id, (v1, xs1))]).map (·.1)).Nodup := by
              rw [List.map_append, List.nodup_append]
              refine ⟨hnd, by simp, fun a ha b hb => ?_⟩
              obtain ⟨q, hq, rfl⟩ := List.mem_map.1 ha
              have hb : b = id := by simpa using hb
              rw [hb]
              exact hnotin q hq
            obtain ⟨L, h3, h4, h5, h6, h7, h8, h9⟩ := nests_sound r (i + 1) _ hnd' hg
            refine ⟨(id, (v1, xs1)) :: L, h3, by rw [h4]; simp, by simp only [List.length_cons]; omega, by simp [h6], ?_, by simpa using h8, fun j p q hp hq => ?_⟩
            · simp only [List.map_cons, List.zipIdx_cons, List.map_cons]
              rw [h7]
            · cases j with
              | zero =>
                simp only [List.getElem?_cons_zero, Option.some.injEq] at hp hq
                subst hp; subst hq
                exact ⟨he, hl⟩
              | succ j =>
                simp only [List.getElem?_cons_succ] at hp hq
                exact h9 j p q hp hq
        · cases hx
      · cases hx

/-- a literal's run -/
theorem run_bslV {t n e : Nat} {te : TI} {P : Program} {E : Env} (hu : P.underlying t = some (.slice e)) (hte : TyOK P E e te) (hone : te.size = 1) (hn : n * te.size ≤ 16777216) {ps : Array (Nat × Operand)} {V : List Value} (ho : o.op = .buildSlice t n ps)
    (hV : V = ps.toList.map fun p => a.eval p.2) (hvl : V.length = n) (h1 : ∀ v ∈ V, v.oneCell' = true) (hps : ps.toList.map (fun p => (p.1, a.eval p.2)) = ((V.zipIdx 0).map fun x => (x.2, x.1))) :
    (execOp a.eval o).run P w = .ok (.value (.slice (some ⟨w.heap.size, 0, none⟩) n n)) (w.alloc (.cells V.toArray e)) := by
  obtain ⟨i, z, g1, g2, g3, g4, g5⟩ := hte.info
  have hvs : ∀ vv ∈ V, vv.cells.size = te.size := fun vv hvv => by rw [cells_one (h1 vv hvv), hone]; rfl
  have hflat : ∀ (l : List Value), (∀ v ∈ l, v.oneCell' = true) → (l.flatMap fun v => v.cells.toList) = l := by
    intro l
    induction l with
    | nil => intro _; rfl
    | cons y l ih =>
      intro hy
      rw [List.flatMap_cons, ih fun z hz => hy z (List.mem_cons_of_mem _ hz), cells_one (hy y (List.mem_cons_self ..))]
      rfl
  have hrun : (Instr.buildSlice t n (ps.map fun (i, x) => (i, a.eval x))).run P w = .ok (.slice (some ⟨w.heap.size, 0, none⟩) n n) (w.alloc (.cells V.toArray e)) := by
    by_cases hn0 : n * i.size = 0
    · have hn1 : n = 0 := by
        rw [g2, hone] at hn0
        omega
      have hpe : ps = #[] := by
        have : ps.toList.length = 0 := by rw [hV, List.length_map] at hvl; omega
        have := List.length_eq_zero_iff.1 this
        rw [← Array.toArray_toList (xs := ps), this]
      subst hn1
      have hf0 : V = [] := List.length_eq_zero_iff.1 hvl
      rw [hpe, hf0]
      simp [Instr.buildSlice, run_underlying hu, sizeOf, typeInfo, g1, Instr.fill, newRow, Array.range_zero']
    · refine run_buildSlice w t e n _ _ i z hu g1 g4 (by rw [g2]; omega) hn0 ?_
      rw [Array.toList_map]
      have e1 : List.map (fun (x : Nat × Operand) => match x with | (i, x) => (i, a.eval x)) ps.toList = (V.zipIdx 0).map fun x => (x.2, x.1) := hps
      rw [e1, g2]
      first
        | exact (Great.fill_whole (by omega) _ _ hvs (by rw [hvl]; simp)).trans (by rw [hflat V h1])
        | (rw [← hflat V h1]; exact Great.fill_whole (by omega) _ _ hvs (by rw [hvl]; simp))
  simp only [execOp, ho, Sem.run_bind, hrun, Result.andThen_ok, Sem.run_pure]

theorem m_bslN (h : Inv X s a w β) (hE : EnvOK X.P X.E) {t n e : Nat} {te : TI} {ps : Array (Nat × Operand)} (ho : o.op = .buildSlice t n ps) (hu : X.P.underlying t = some (.slice e)) (hEe : X.E e = some te) (hd : lookB d s.bx = .dead) (hn : n * te.size ≤ 16777216)
    {e' : Nat} (hk : te.kind = .slice e') (hone : te.size = 1) (hg : Gets X.P X.E d bb (fillNest d e n (nestsOf e' s.bx s.fr ps.toList) 0 [] []) v u) : Moves X s a w o v u := by
  have hte := hE e te hEe
  · obtain ⟨_, _, te', hEe', hpos, _⟩ := KindOK.slice hte hk
    obtain ⟨L, rfl, rfl, hlen, hlen', hps, hnd, hat⟩ := nests_sound (a := a) ps.toList 0 [] (by simp) hg
    simp only [Nat.zero_add, List.nil_append] at hlen hnd ⊢
    obtain ⟨V, hV⟩ : ∃ V, V = ps.toList.map fun p => a.eval p.2 := ⟨_, rfl⟩
    have hVL : V.length = L.length := by rw [hV, List.length_map, hlen']
    have hrow : ∀ (i : Nat) q, L[i]? = some q → lookB q.1 s.bx = .arr e' q.2.1 q.2.2 ∧ V.getD i undef = β q.1 := fun i q hq => by
      have hi : i < ps.toList.length := by rw [← hlen']; exact (List.getElem?_eq_some_iff.1 hq).1
      have hp : ps.toList[i]? = some ps.toList[i] := List.getElem?_eq_getElem hi
      obtain ⟨h1, h2⟩ := hat i _ q hp hq
      refine ⟨h2, ?_⟩
      have hVi : V.getD i undef = a.eval (ps.toList[i]).2 := by rw [hV, List.getD_eq_getElem?_getD, List.getElem?_map, hp]; rfl
      rw [hVi]
      have := h.ev (ps.toList[i]).2
      rw [h1] at this
      generalize a.eval (ps.toList[i]).2 = vv at this
      cases this with
      | osl _ _ _ _ hok => rw [h2] at hok; exact hok.2 rfl
    have hrowk : ∀ (i : Nat), i < L.length → ∃ q, L[i]? = some q := fun i hi => ⟨_, List.getElem?_eq_getElem hi⟩
    have hbox : ∀ q ∈ L, lookB q.1 s.bx = .arr e' q.2.1 q.2.2 := fun q hq => by
      obtain ⟨i, hi⟩ := List.getElem?_of_mem hq
      exact (hrow i q hi).1
    have hflat : ∀ id, ∃ flat : List Value, ∀ ver xs, lookB id s.bx = .arr e' ver xs → (∀ x ∈ xs, x.length = te'.size) ∧ w.ownsRow 0 e' te'.size (β id) xs.length flat ∧ (∀ i x j d, xs[i]? = some x → x[j]? = some d → Rp w (MM X (lookB · s.bx) β) (flat.getD (i * te'.size + j) undef) d) := fun id => by
      cases hl : lookB id s.bx with
      | arr e1 v1 xs1 =>
        have hb := h.box id
        rw [hl] at hb
        obtain ⟨te2, flat, hE2, _, hl2, ho2, _, hr2⟩ := hb
        refine ⟨flat, fun ver xs he => ?_⟩
        injection he with q1 q2 q3
        subst q1; subst q2; subst q3
        have : te2 = te' := by
          rw [hEe'] at hE2
          injection hE2 with hE2
          exact hE2.symm
        subst this
        exact ⟨hl2, ho2, hr2⟩
      | _ => exact ⟨[], fun ver xs he => by cases he⟩
    obtain ⟨fl, hfl⟩ := Classical.axiomOfChoice hflat
    have hV1 : ∀ v ∈ V, v.oneCell' = true := fun v hv => by
      obtain ⟨i, hi⟩ := List.getElem?_of_mem hv
      have hil := (List.getElem?_eq_some_iff.1 hi).1
      obtain ⟨q, hq⟩ := hrowk i (by omega)
      obtain ⟨h1, h2⟩ := hrow i q hq
      rw [List.getD_eq_getElem?_getD, hi] at h2
      have h2 : v = β q.1 := h2
      rw [h2]
      exact own_one (hfl q.1 _ _ h1).2.1
    have hrun := run_bslV (o := o) (a := a) (w := w) hu hte hone hn ho hV (by rw [hVL]; exact hlen) hV1 (by rw [hV]; exact hps)
    have hlive : ∀ q ∈ L, live (lookB q.1 s.bx) = true := fun q hq => by rw [hbox q hq]; rfl
    have hdL : ∀ q ∈ L, q.1 ≠ d := fun q hq e => by
      have := hbox q hq
      rw [e, hd] at this
      cases this
    have hVb : ∀ p k, blk (V.getD p undef) = some k → ∃ q, L[p]? = some q ∧ Blk (β q.1) k := fun p k hk => by
      by_cases hp : p < L.length
      · obtain ⟨q, hq⟩ := hrowk p hp
        rw [(hrow p q hq).2] at hk
        exact ⟨q, hq, .of hk⟩
      · rw [List.getD_eq_getElem?_getD, List.getElem?_eq_none (by omega)] at hk
        simp [blk, undef] at hk
    have hVlt : ∀ p k, blk (V.getD p undef) = some k → k < w.heap.size ∧ X.own k := fun p k hk => by
      obtain ⟨q, hq, hb⟩ := hVb p k hk
      exact (h.box q.1).lt (hlive q (List.mem_of_getElem? hq)) hb
    have hnewb : ∀ k, Blk (.tuple (Value.slice (some ⟨w.heap.size, 0, none⟩) n n :: V).toArray) k → (w.heap.size ≤ k ∨ (live (lookB d s.bx) = true ∧ Blk (β d) k) ∨ ∃ q ∈ L, Blk (β q.1) k) ∧ X.own k := fun k hk => by
      rcases blk_tuple.1 hk with hk | ⟨p, hk⟩
      · injection hk with hk
        subst hk
        exact ⟨.inl (Nat.le_refl _), .inl h.keep.size⟩
      · obtain ⟨q, hq, hb⟩ := hVb p k hk
        exact ⟨.inr (.inr ⟨q, List.mem_of_getElem? hq, hb⟩), (hVlt p k hk).2⟩
    have hrl : (L.map (·.2.2)).length = n := by rw [List.length_map]; exact hlen
    have hrows : ∀ (p : Nat) r, (L.map (·.2.2))[p]? = some r → ∃ q, L[p]? = some q ∧ r = q.2.2 := fun p r hp => by
      rw [List.getElem?_map] at hp
      cases hq : L[p]? with
      | none => rw [hq] at hp; cases hp
      | some q =>
        rw [hq] at hp
        simp only [Option.map_some, Option.some.injEq] at hp
        exact ⟨q, rfl, hp.symm⟩
    obtain ⟨β', hβ', hinv⟩ := h.swallow (w' := w.alloc (.cells V.toArray e)) (id := d) (b1 := .nest e 0 0 none (L.map (·.2.2))) (v1 := .tuple (Value.slice (some ⟨w.heap.size, 0, none⟩) n n :: V).toArray) hEe' hpos hbox hdL rfl rfl rfl (by simp)
      (fun k hk _ => Below.heap_alloc w _ k hk) (fun _ => hnewb) (by rw [hd]; trivial)
      (fun β' M' hβ' hkept hM' => by
        refine ⟨te, e', te', _, _, _, hβ' ▸ NV.nest (flat := fun p => fl ((L.getD p (0, (0, []))).1)) ⟨fun r hr => ?_, by rw [hVL, List.length_map], ?_, fun p r hp => ?_, fun p r hp i x j dd hx hdd => ?_, fun p k h0 h1 => ?_, fun p q k h1 h2 => ?_⟩ hEe hone hk hEe' hpos fun k hk => (hnewb k hk).2⟩
        · obtain ⟨q, hq, rfl⟩ := List.mem_map.1 hr
          exact (hfl q.1 _ _ (hbox q hq)).1
        · rw [hrl]
          refine ⟨by rw [hVL, hlen, Nat.mul_one], .inr ⟨w.heap.size, n, _, rfl, Nat.zero_le _, heap_alloc_new w _, Nat.le_refl _, ?_, by rw [List.size_toArray, hVL, hlen, Nat.mul_one], ?_⟩⟩
          · rw [hone] at hn
            simp only [maxLen]; omega
          · exact List.take_of_length_le (by rw [hVL, hlen, Nat.mul_one]; exact Nat.le_refl _)
        · obtain ⟨q, hq, rfl⟩ := hrows p r hp
          have hqd : L.getD p (0, (0, [])) = q := by rw [List.getD_eq_getElem?_getD, hq]; rfl
          simp only [hqd]
          rw [(hrow p q hq).2]
          exact ownsRow_heap (hfl q.1 _ _ (hrow p q hq).1).2.1 fun k hk => Below.heap_alloc w _ k ((h.box q.1).lt (hlive q (List.mem_of_getElem? hq)) (.of hk)).1
        · obtain ⟨q, hq, rfl⟩ := hrows p r hp
          have hqd : L.getD p (0, (0, [])) = q := by rw [List.getD_eq_getElem?_getD, hq]; rfl
          simp only [hqd]
          exact ((hfl q.1 _ _ (hrow p q hq).1).2.2 i x j dd hx hdd).keep hkept
        · have := (hVlt p k h1).1
          injection h0 with h0
          have h0 : w.heap.size = k := h0
          omega
        · obtain ⟨q1, hq1, hb1⟩ := hVb p k h1
          obtain ⟨q2, hq2, hb2⟩ := hVb q k h2
          have he := h.inj q1.1 q2.1 k (hlive q1 (List.mem_of_getElem? hq1)) (hlive q2 (List.mem_of_getElem? hq2)) hb1 hb2
          have e1 : (L.map (·.1))[p]? = some q1.1 := by rw [List.getElem?_map, hq1]; rfl
          have e2 : (L.map (·.1))[q]? = some q1.1 := by rw [List.getElem?_map, hq2, he]; rfl
          have hpl := (List.getElem?_eq_some_iff.1 e1).1
          have hql := (List.getElem?_eq_some_iff.1 e2).1
          exact (List.getElem?_inj hpl hnd).1 (e1.trans e2.symm))
    refine ⟨_, _, _, β', hrun, .inl rfl, hinv, .osl _ _ _ rfl ?_⟩
    have e1 : lookB d ((d, Box.nest e 0 0 none (L.map (·.2.2))) :: gone e' L ++ s.bx) = .nest e 0 0 none (L.map (·.2.2)) := by simp [lookB_cons]
    simp only [e1]
    refine ⟨Nat.le_refl _, fun _ => ?_⟩
    rw [hβ']
    show _ = (Value.slice (some ⟨w.heap.size, 0, none⟩) n n :: V).toArray.getD 0 undef
    rw [getD_cons_arr]; rfl

theorem bslO_cases {bx : List (Nat × Box)} {fr : List (Nat × AV)} {e n : Nat} {te : TI} {ps : List (Nat × Operand)} {own : Bool} {P : Program} {E : Env} (hg : Gets P E d bb (bslO bx fr d e n ps te own) v u) :
    Gets P E d bb (fillRows d e te.size n (rowsOf bx fr ps) 0 [] []) v u ∨ ∃ e', te.kind = .slice e' ∧ te.size = 1 ∧ Gets P E d bb (fillNest d e n (nestsOf e' bx fr ps) 0 [] []) v u := by
  cases own with
  | false => exact .inl hg
  | true =>
    simp only [bslO] at hg
    cases hk : te.kind <;> rw [hk] at hg <;> simp only [bslN] at hg <;> try (exact hg.elim)
    rename_i e'
    cases hc : (te.size == 1 && allOwn (nestsOf e' bx fr ps)) <;> rw [hc] at hg
    · exact .inl hg
    · simp only [Bool.and_eq_true, beq_iff_eq] at hc
      exact .inr ⟨e', rfl, hc.1, hg⟩

theorem m_bsl (h : Inv X s a w β) (hE : EnvOK X.P X.E) {t n : Nat} {ps : Array (Nat × Operand)} (ho : o.op = .buildSlice t n ps) (hg : Gets X.P X.E d bb (bslAV X.E s.bx s.fr d n ps.toList (X.E t)) v u) : Moves X s a w o v u := by
  unfold bslAV at hg
  split at hg
  · rename_i ti hT
    have hty := hE t ti hT
    unfold bslK at hg
    split at hg
    · rename_i e hk
      obtain ⟨hu, _, te, hEe, h0, hby⟩ := KindOK.slice hty hk
      have hte := hE e te hEe
      rw [hEe] at hg
      simp only [bslE] at hg
      obtain ⟨hd, hg⟩ := dead_of hg
      obtain ⟨hn, hg⟩ := cond_val hg
      simp only [decide_eq_true_eq] at hn
      rcases bslO_cases hg with hg | ⟨e', hk', hone, hg⟩
      rotate_left
      · exact m_bslN h hE ho hu hEe hd hn hk' hone hg
      obtain ⟨uF, rows, hfz, _, rfl, rfl, hlen, hlen', hps, hsz, hcells⟩ := rows_sound h ps.toList 0 [] [] (frz_nil _) hg
      simp only [Nat.zero_add, List.nil_append] at hlen ⊢
      obtain ⟨i, z, h1, h2, h3, h4, h5⟩ := hte.info
      have hinv := h.freezeL hfz
      have hd' : live (lookB d (uF ++ s.bx)) = false := by
        cases hl : live (lookB d (uF ++ s.bx)) with
        | false => rfl
        | true =>
          have := (live_frz hfz hl).1
          rw [hd] at this; cases this
      have hdd : lookB d (uF ++ s.bx) = .dead := by
        rw [lookB_frz_other hfz (by rw [hd]; rfl), hd]
      have hvs : ∀ vv ∈ ps.toList.map (fun p => a.eval p.2), vv.cells.size = te.size := fun vv hvv => by
        obtain ⟨j, hj⟩ := List.getElem?_of_mem hvv
        rw [List.getElem?_map] at hj
        cases hp : ps.toList[j]? with
        | none => rw [hp] at hj; cases hj
        | some p =>
          rw [hp] at hj
          simp only [Option.map_some, Option.some.injEq] at hj
          subst hj
          have hlt : j < rows.length := by rw [hlen']; exact (List.getElem?_eq_some_iff.1 hp).1
          have hr : rows[j]? = some rows[j] := List.getElem?_eq_getElem hlt
          have := (hcells j p _ hp hr).1
          rw [this]; exact hsz _ (List.mem_of_getElem? hr)
      have hvl : (ps.toList.map (fun p => a.eval p.2)).length = n := by rw [List.length_map, ← hlen', hlen]
      obtain ⟨flat, hflat⟩ : ∃ flat, flat = (ps.toList.map (fun p => a.eval p.2)).flatMap fun v => v.cells.toList := ⟨_, rfl⟩
      have hget : ∀ (i j : Nat) (p : Nat × Operand), ps.toList[i]? = some p → j < te.size → flat[i * te.size + j]? = (a.eval p.2).cells[j]? := fun i j p hp hj => by
        rw [hflat, Great.flat_get h0 _ hvs]
        have e1 : (i * te.size + j) / te.size = i := by rw [Nat.mul_comm, Nat.mul_add_div h0, Nat.div_eq_of_lt hj]; rfl
        have e2 : (i * te.size + j) % te.size = j := by rw [Nat.mul_comm, Nat.mul_add_mod, Nat.mod_eq_of_lt hj]
        rw [e1, e2, List.getElem?_map, hp]
        rfl
      have hfl : flat.length = n * te.size := by
        have hgen : ∀ l : List Value, (∀ vv ∈ l, vv.cells.size = te.size) → (l.flatMap fun v => v.cells.toList).length = l.length * te.size := by
          intro l
          induction l with
          | nil => intro _; simp
          | cons y l ih =>
            intro hy
            rw [List.flatMap_cons, List.length_append, ih fun z hz => hy z (List.mem_cons_of_mem _ hz), Array.length_toList, hy y (List.mem_cons_self ..), List.length_cons, Nat.succ_mul]
            omega
        rw [hflat, hgen _ hvs, hvl]
      have hrun : (Instr.buildSlice t n (ps.map fun (i, x) => (i, a.eval x))).run X.P w = .ok (.slice (some ⟨w.heap.size, 0, none⟩) n n) (w.alloc (.cells flat.toArray e)) := by
        by_cases hn0 : n * i.size = 0
        · have hn1 : n = 0 := by
            rw [h2] at hn0
            rcases Nat.mul_eq_zero.1 hn0 with hh | hh
            · exact hh
            · omega
          have hpe : ps = #[] := by
            have : ps.toList.length = 0 := by rw [← hlen', hlen, hn1]
            have := List.length_eq_zero_iff.1 this
            rw [← Array.toArray_toList (xs := ps), this]
          subst hn1
          have hf0 : flat = [] := List.length_eq_zero_iff.1 (by rw [hfl]; simp)
          rw [hpe, hf0]
          simp [Instr.buildSlice, run_underlying hu, sizeOf, typeInfo, h1, Instr.fill, newRow, Array.range_zero']
        · refine run_buildSlice w t e n _ _ i z hu h1 h4 (by rw [h2]; omega) hn0 ?_
          rw [Array.toList_map]
          have e1 : List.map (fun (x : Nat × Operand) => match x with | (i, x) => (i, a.eval x)) ps.toList = ((ps.toList.map fun p => a.eval p.2).zipIdx 0).map fun x => (x.2, x.1) := hps
          rw [e1, h2, hflat]
          exact Great.fill_whole h0 _ _ hvs (by rw [hvl]; simp)
      have hch : Changed X ⟨s.fr, uF ++ s.bx⟩ w β d (.arr e 0 rows) (.slice (some ⟨w.heap.size, 0, none⟩) n n) (w.alloc (.cells flat.toArray e)) := by
        refine ⟨rfl, rfl, rfl, by simp, fun k hk _ => Below.heap_alloc w _ k hk, fun k _ hk => ?_, by rw [hdd]; trivial⟩
        injection hk with hk
        subst hk
        exact ⟨.inl (Nat.le_refl _), .inl h.keep.size⟩
      refine ⟨_, .slice (some ⟨w.heap.size, 0, none⟩) n n, _, _, ?_, .inl rfl, hinv.upd hch ⟨te, flat, hEe, h0, hsz, ⟨by rw [hfl, hlen], .inr ⟨w.heap.size, n, _, ?_, Nat.zero_le _, heap_alloc_new w _, ?_, ?_, ?_, ?_⟩⟩, fun k hk => ?_, fun i x j dd hx hdd => ?_⟩, .osl _ _ _ rfl ?_⟩
      · simp only [execOp, ho, Sem.run_bind, hrun, Result.andThen_ok, Sem.run_pure]
      · rw [upd1_same, hlen]
      · rw [hlen]; exact Nat.le_refl _
      · have : n * 1 ≤ n * te.size := Nat.mul_le_mul_left _ h0
        simp only [maxLen]; omega
      · rw [List.size_toArray, hfl]
      · exact List.take_of_length_le (by rw [hfl, hlen]; exact Nat.le_refl _)
      · rw [upd1_same] at hk
        injection hk with hk
        subst hk
        exact .inl h.keep.size
      · have hi := (List.getElem?_eq_some_iff.1 hx).1
        have hj : j < te.size := by rw [← hsz x (List.mem_of_getElem? hx)]; exact (List.getElem?_eq_some_iff.1 hdd).1
        have hip : i < ps.toList.length := by rw [← hlen']; exact hi
        have hp : ps.toList[i]? = some ps.toList[i] := List.getElem?_eq_getElem hip
        have := (hcells i _ x hp hx).2 j dd hdd
        rw [List.getD_eq_getElem?_getD, hget i j _ hp hj, ← Array.getD_eq_getD_getElem?]
        exact this.keep hch.kept
      · have e1 : lookB d ((d, Box.arr e 0 rows) :: uF ++ s.bx) = .arr e 0 rows := by simp [lookB_cons]
        simp only [e1]
        exact ⟨Nat.le_refl _, fun _ => (upd1_same _ _ _).symm⟩
    · exact hg.elim
  · exact hg.elim

end
end Go.Vx
end

section
set_option linter.unusedVariables false
set_option linter.unusedSimpArgs false
namespace Go.Vx
open Go Go.RowKit

section
variable {X : Ctx} {s : S} {a : Act} {w : World} {β : Nat → Value} {o : Oper} {d : Nat} {bb : Box} {v : AV} {u : Upd}

/-- what is asked of an operation, calls too -/
def Goes (X : Ctx) (s : S) (a : Act) (w : World) (o : Oper) (v : AV) (u : Upd) : Prop :=
  ∀ (K : Act → World → Prop) (Q : Exit → Act → World → Prop), (∀ v' w' β', Inv X ⟨s.fr, u ++ s.bx⟩ a w' β' → RV w' (MM X (lookB · (u ++ s.bx)) β') β' (lookB · (u ++ s.bx)) v' v → K (a.put o.dst v') w') → o.wp X.P a w K Q

theorem Moves.goes (h : Moves X s a w o v u) : Goes X s a w o v u := fun K Q hK => by
  obtain ⟨nx, v', w', β', hrun, hnx, hinv, hrv⟩ := h
  rcases hnx with rfl | ⟨rfl, rfl⟩
  · exact wp_val hrun (hK v' w' β' hinv hrv)
  · exact wp_skp hrun (hK _ w' β' hinv hrv)

theorem Inv.below {w' : World} (h : Inv X s a w β) (hb : Below w.heap.size w w') : Inv X s a w' β := by
  have hk : Kept w (Vx.MM X (lookB · s.bx) β) w' (Vx.MM X (lookB · s.bx) β) := fun k hk hM => ⟨hb.block k hk, hM⟩
  refine ⟨h.df, h.sz, ⟨hb.os.trans h.keep.os, hb.tape.trans h.keep.tape, hb.output.trans h.keep.output, Nat.le_trans h.keep.size hb.size, fun k hk hx => ?_⟩, h.m0, fun id => ?_, h.inj, fun i => ?_, h.pin⟩
  · rw [hb.block k (Nat.lt_of_lt_of_le hk h.keep.size)]; exact h.keep.block k hk hx
  · exact (h.box id).keep rfl (fun k hl hbk => hb.block k ((h.box id).lt hl hbk).1) hb.size hk fun _ => Turned.refl _ _
  · exact (h.fr i).keep hb.size hk fun _ => Turned.refl _ _

theorem Inv.lt (h : Inv X s a w β) {k : Nat} (hk : Vx.MM X (lookB · s.bx) β k) : k < w.heap.size := by
  rcases hk with hk | ⟨id, hl, hb⟩
  · exact Nat.lt_of_lt_of_le (h.m0 k hk).1 h.keep.size
  · exact ((h.box id).lt hl hb).1

theorem toDB_sound (h : Inv X s a w β) {id ver : Nat} {p : D × Upd} {vx : Value} (hv : RV w (MM X (lookB · s.bx) β) β (lookB · s.bx) vx (.osl id ver)) (hd : toDB id ver (lookB id s.bx) = some p) :
    FrzL s.bx p.2 ∧ Rp w (MM X (lookB · (p.2 ++ s.bx)) β) vx p.1 := toD_sound (av := .osl id ver) h hv (by unfold toD; exact hd)

theorem norm_sound (h : Inv X s a w β) {av av' : AV} {u' : Upd} {vx : Value} (hv : RV w (MM X (lookB · s.bx) β) β (lookB · s.bx) vx av) (hn : normA s.bx av = some (av', u')) :
    FrzL s.bx u' ∧ ∀ uF, FrzL s.bx uF → (∀ p ∈ u', p ∈ uF) → RV w (MM X (lookB · (uF ++ s.bx)) β) (fun _ => undef) (fun _ => .dead) vx av' := by
  unfold normA at hn
  split at hn
  · injection hn with hn
    injection hn with h1 h2
    subst h1; subst h2
    refine ⟨frz_nil _, fun uF _ _ => ?_⟩
    cases hv.to_c
    exact .c _ _ (Rp.nil _ _)
  · injection hn with hn
    injection hn with h1 h2
    subst h1; subst h2
    exact ⟨frz_nil _, fun uF hu _ => .c _ _ (frz_mono (u' := []) hu (by simp) hv.to_c)⟩
  · injection hn with hn
    injection hn with h1 h2
    subst h1; subst h2
    refine ⟨frz_nil _, fun uF hu _ => ?_⟩
    cases hv with
    | ag cs _ hs hr => exact .ag cs _ hs fun j dd hd => frz_mono (u' := []) hu (by simp) (hr j dd hd)
  · injection hn with hn
    injection hn with h1 h2
    subst h1; subst h2
    refine ⟨frz_nil _, fun uF hu _ => ?_⟩
    cases hv with
    | ip ad _ cell hb hM hcell hr =>
      refine .ip ad _ cell hb ?_ hcell fun j dd hd => frz_mono (u' := []) hu (by simp) (hr j dd hd)
      rintro (h0 | ⟨id, hl, hbk⟩)
      · exact hM (.inl h0)
      · exact hM (.inr ⟨id, (live_frz hu hl).1, hbk⟩)
  · rename_i id ver
    cases ht : toDB id ver (lookB id s.bx) with
    | none => rw [ht] at hn; cases hn
    | some p =>
      rw [ht] at hn
      simp only [Option.map_some, Option.some.injEq, Prod.mk.injEq] at hn
      obtain ⟨h1, h2⟩ := hn
      subst h1; subst h2
      obtain ⟨hf, hr⟩ := toDB_sound h hv ht
      exact ⟨hf, fun uF hu hs => .c _ _ (frz_mono hu hs hr)⟩
  · rename_i id rv p
    cases ht : toDF id rv p (lookB id s.bx) with
    | none => rw [ht] at hn; cases hn
    | some q =>
      rw [ht] at hn
      simp only [Option.map_some, Option.some.injEq, Prod.mk.injEq] at hn
      obtain ⟨h1, h2⟩ := hn
      subst h1; subst h2
      obtain ⟨hf, hr⟩ := toD_sound (av := .fsl id rv p) h hv (by unfold toD; exact ht)
      exact ⟨hf, fun uF hu hs => .c _ _ (frz_mono hu hs hr)⟩
  · rename_i vs
    cases ht : toDL s.bx vs with
    | none => rw [ht] at hn; cases hn
    | some q =>
      rw [ht] at hn
      simp only [Option.map_some, Option.some.injEq, Prod.mk.injEq] at hn
      obtain ⟨h1, h2⟩ := hn
      subst h1; subst h2
      obtain ⟨hf, hc⟩ := toDs_sound (av := .agv vs) h hv (by unfold toDs; exact ht)
      cases hv with
      | agv cs _ hs _ hr =>
        exact ⟨hf, fun uF hu hs' => .ag cs _ hc.1 fun j d hj => frz_mono hu hs' (hc.2 j d hj)⟩
  · cases hn

theorem normL_sound (h : Inv X s a w β) : ∀ (l : List Operand) (l' : List AV) (u' : Upd), normL s.bx (l.map (ev s.fr)) = some (l', u') → FrzL s.bx u' ∧ l'.length = l.length ∧
    ∀ uF, FrzL s.bx uF → (∀ p ∈ u', p ∈ uF) → ∀ (j : Nat) x av, l[j]? = some x → l'[j]? = some av → RV w (MM X (lookB · (uF ++ s.bx)) β) (fun _ => undef) (fun _ => .dead) (a.eval x) av
  | [], l', u', hn => by
    simp only [List.map_nil, normL, Option.some.injEq, Prod.mk.injEq] at hn
    obtain ⟨rfl, rfl⟩ := hn
    exact ⟨frz_nil _, rfl, fun _ _ _ j x av hj => by simp at hj⟩
  | x :: r, l', u', hn => by
    simp only [List.map_cons, normL] at hn
    cases h1 : normA s.bx (ev s.fr x) with
    | none => rw [h1] at hn; cases hn
    | some p =>
      cases h2 : normL s.bx (r.map (ev s.fr)) with
      | none => rw [h1, h2] at hn; cases hn
      | some q =>
        rw [h1, h2] at hn
        simp only [and3, Option.some.injEq, Prod.mk.injEq] at hn
        obtain ⟨rfl, rfl⟩ := hn
        obtain ⟨f1, g1⟩ := norm_sound h (h.ev x) h1
        obtain ⟨f2, l2, g2⟩ := normL_sound h r q.1 q.2 h2
        refine ⟨f1.append f2, by simp [l2], fun uF hu hs j y av hy hav => ?_⟩
        cases j with
        | zero =>
          simp only [List.getElem?_cons_zero, Option.some.injEq] at hy hav
          subst hy; subst hav
          exact g1 uF hu fun p hp => hs p (List.mem_append_left _ hp)
        | succ j =>
          simp only [List.getElem?_cons_succ] at hy hav
          exact g2 uF hu (fun p hp => hs p (List.mem_append_right _ hp)) j y av hy hav

/-- the call comes to 'enter' -/
theorem run_enter {P : Program} {f : Nat} (hc : Callable P f) {fo : Operand} {args : Array Operand} {ts : Array Nat} (ho : o.op = .call ⟨.value fo, args, ts⟩) (hf : a.eval fo = .func (.func f) #[] #[]) :
    (execOp a.eval o).run P w = .ok (.enter f (args.map a.eval)) w := by
  obtain ⟨fn, h1, h2, h3⟩ := hc
  simp only [execOp, ho, resolve, hf, Deferred.ofValue, invoke, callFunc, Sem.run_bind, Sem.run_pure, Result.andThen_ok, run_program, h1, h2, h3, Bool.false_eq_true, if_false, Array.empty_append, Array.append_empty]

theorem fr_inv {w' : World} {M : Nat → Prop} {e : Nat} {xs : List (List D)} {vx : Value} (h : Inv X s a w β) (hb : Below w.heap.size w w') (hd : lookB d s.bx = .dead)
    (hM : ∀ k, M k → MM X (lookB · s.bx) β k ∨ blk vx = some k) (hM' : ∀ k, MM X (lookB · s.bx) β k ∨ blk vx = some k → M k) (hr : ResV X.E w' w.heap.size M vx (.fr e xs)) :
    Inv X ⟨s.fr, (d, .arr e 0 xs) :: s.bx⟩ a w' (upd1 β d vx) ∧ RV w' (MM X (lookB · ((d, .arr e 0 xs) :: s.bx)) (upd1 β d vx)) (upd1 β d vx) (lookB · ((d, .arr e 0 xs) :: s.bx)) vx (.osl d 0) ∧
      ∀ k, MM X (lookB · ((d, .arr e 0 xs) :: s.bx)) (upd1 β d vx) k → M k := by
  obtain ⟨te, flat, hEe, h0, hlen, hown, hrp⟩ := hr
  have hblk : ∀ k, Blk vx k → w.heap.size ≤ k := fun k hk => by
    have hk := Blk.slice hown hk
    rcases hown.2 with ⟨rfl, _⟩ | ⟨g, cap, cur, rfl, hb, _⟩
    · cases hk
    · injection hk with hk
      subst hk; exact hb
  have hch : Changed X s w β d (.arr e 0 xs) vx w' :=
    ⟨hb.os, hb.tape, hb.output, hb.size, fun k hk _ => hb.block k hk, fun k _ hk => ⟨.inl (hblk k hk), .inl (Nat.le_trans h.keep.size (hblk k hk))⟩, by rw [hd]; trivial⟩
  have hMM : ∀ k, MM X (lookB · ((d, .arr e 0 xs) :: s.bx)) (upd1 β d vx) k → M k := fun k hk => by
    refine hM' k ?_
    rcases hk with hk | ⟨id, hl, hbk⟩
    · exact .inl (.inl hk)
    · by_cases hi : id = d
      · rw [hi, upd1_same] at hbk; exact .inr (Blk.slice hown hbk)
      · rw [upd1_other β d id vx hi] at hbk
        simp only [lookB_cons, if_neg hi] at hl
        exact .inl (.inr ⟨id, hl, hbk⟩)
  refine ⟨h.upd hch ⟨te, flat, hEe, h0, hlen, ?_, fun k hk => ?_, fun i x j dd hx hdd => ?_⟩, .osl _ _ _ (own_blk hown).2 ?_, hMM⟩
  · rw [upd1_same]
    refine ⟨hown.1, ?_⟩
    rcases hown.2 with hn | ⟨g, cap, cur, hv, _, rest⟩
    · exact .inl hn
    · exact .inr ⟨g, cap, cur, hv, Nat.zero_le _, rest⟩
  · rw [upd1_same] at hk
    exact .inl (Nat.le_trans h.keep.size (hblk k hk))
  · exact (hrp i x j dd hx hdd).keep fun k _ hn => ⟨rfl, fun hm => hn (hMM k hm)⟩
  · have e1 : lookB d ((d, Box.arr e 0 xs) :: s.bx) = .arr e 0 xs := by simp [lookB_cons]
    simp only [e1]
    exact ⟨Nat.le_refl _, fun _ => (upd1_same _ _ _).symm⟩

def plain : AV → Bool
  | .c _ => true
  | .ag _ => true
  | _ => false
theorem plain_fr {r : AV} (h : plain r = true) : isFr r = false := by cases r <;> first | rfl | cases h

theorem plain_rv {w' : World} {B : Nat} {M M' : Nat → Prop} {lk : Nat → Box} {β' : Nat → Value} {r : AV} {vx : Value} (hp : plain r = true) (hM : ∀ k, M' k → M k) (h : ResV X.E w' B M vx r) : RV w' M' β' lk vx r := by
  have hk : Kept w' M w' M' := fun k _ hn => ⟨rfl, fun hm => hn (hM k hm)⟩
  cases r <;> first | (cases hp; done) | skip
  case c x => exact .c _ _ (Rp.keep h hk)
  case ag ds =>
    obtain ⟨cs, rfl, hs, hr⟩ := h
    exact .ag cs ds hs fun j dd hd => (hr j dd hd).keep hk

theorem resL_sound : ∀ (vs : List AV) (b : Box) (p : List AV × Upd), resL d b vs = some p → (p.2 = [] ∧ p.1 = vs ∧ ∀ (j : Nat) r, vs[j]? = some r → plain r = true) ∨
    (b = .dead ∧ ∃ j0 e xs, p.2 = [(d, .arr e 0 xs)] ∧ vs[j0]? = some (.fr e xs) ∧ p.1[j0]? = some (.osl d 0) ∧ p.1.length = vs.length ∧ ∀ (j : Nat) r, j ≠ j0 → vs[j]? = some r → p.1[j]? = some r ∧ plain r = true)
  | [], b, p, h => by
    simp only [resL, Option.some.injEq] at h
    subst h
    exact .inl ⟨rfl, rfl, fun j r hj => by simp at hj⟩
  | v :: r, b, p, h => by
    have hpl : plain v = true → ∀ q, resL d b r = some q → p = (v :: q.1, q.2) → (p.2 = [] ∧ p.1 = v :: r ∧ ∀ (j : Nat) r', (v :: r)[j]? = some r' → plain r' = true) ∨
        (b = .dead ∧ ∃ j0 e xs, p.2 = [(d, .arr e 0 xs)] ∧ (v :: r)[j0]? = some (.fr e xs) ∧ p.1[j0]? = some (.osl d 0) ∧ p.1.length = (v :: r).length ∧ ∀ (j : Nat) r', j ≠ j0 → (v :: r)[j]? = some r' → p.1[j]? = some r' ∧ plain r' = true) := by
      intro hv q hq hp
      subst hp
      rcases resL_sound r b q hq with ⟨h1, h2, h3⟩ | ⟨hb, j0, e, xs, h1, h2, h3, h4, h5⟩
      · refine .inl ⟨h1, by rw [h2], fun j r' hj => ?_⟩
        cases j with
        | zero => simp only [List.getElem?_cons_zero, Option.some.injEq] at hj; subst hj; exact hv
        | succ j => exact h3 j r' (by simpa using hj)
      · refine .inr ⟨hb, j0 + 1, e, xs, h1, by simpa using h2, by simpa using h3, by simp [h4], fun j r' hne hj => ?_⟩
        cases j with
        | zero => simp only [List.getElem?_cons_zero, Option.some.injEq] at hj; subst hj; exact ⟨rfl, hv⟩
        | succ j =>
          have := h5 j r' (by omega) (by simpa using hj)
          exact ⟨by simpa using this.1, this.2⟩
    cases v <;> simp only [resL] at h <;> try (cases h; done)
    case c x =>
      cases hq : resL d b r with
      | none => rw [hq] at h; cases h
      | some q => rw [hq] at h; simp only [Option.map_some, Option.some.injEq] at h; exact hpl rfl q hq h.symm
    case ag ds =>
      cases hq : resL d b r with
      | none => rw [hq] at h; cases h
      | some q => rw [hq] at h; simp only [Option.map_some, Option.some.injEq] at h; exact hpl rfl q hq h.symm
    case fr e xs =>
      cases b <;> simp only [] at h <;> try (cases h; done)
      cases hq : resL d (.arr e 0 xs) r with
      | none => rw [hq] at h; cases h
      | some q =>
        rw [hq] at h
        simp only [Option.map_some, Option.some.injEq] at h
        subst h
        rcases resL_sound r _ q hq with ⟨h1, h2, h3⟩ | ⟨hb, _⟩
        · refine .inr ⟨rfl, 0, e, xs, by rw [h1], rfl, rfl, by simp [h2], fun j r' hne hj => ?_⟩
          cases j with
          | zero => exact (hne rfl).elim
          | succ j =>
            simp only [List.getElem?_cons_succ] at hj ⊢
            rw [h2]
            exact ⟨hj, h3 j r' hj⟩
        · cases hb

/-- what a call hands back goes into the state -/
theorem res_sound {w' : World} {r : AV} {vx : Value} {v' : AV} {u2 : Upd} (h : Inv X s a w β) (hb : Below w.heap.size w w') (hr : ResW X.E w' w.heap.size (MM X (lookB · s.bx) β) vx r) (hres : resR d (lookB d s.bx) r = some (v', u2)) :
    ∃ β', Inv X ⟨s.fr, u2 ++ s.bx⟩ a w' β' ∧ RV w' (MM X (lookB · (u2 ++ s.bx)) β') β' (lookB · (u2 ++ s.bx)) vx v' := by
  have hone : resA d (lookB d s.bx) r = some (v', u2) → ResV X.E w' w.heap.size (fun k => MM X (lookB · s.bx) β k ∨ (isFr r = true ∧ blk vx = some k)) vx r → ∃ β', Inv X ⟨s.fr, u2 ++ s.bx⟩ a w' β' ∧ RV w' (MM X (lookB · (u2 ++ s.bx)) β') β' (lookB · (u2 ++ s.bx)) vx v' := by
    intro hA hr
    cases r <;> simp only [resA] at hA <;> try (cases hA; done)
    case c x =>
      simp only [Option.some.injEq, Prod.mk.injEq] at hA
      obtain ⟨rfl, rfl⟩ := hA
      exact ⟨β, h.below hb, plain_rv rfl (fun k hk => .inl hk) hr⟩
    case ag ds =>
      simp only [Option.some.injEq, Prod.mk.injEq] at hA
      obtain ⟨rfl, rfl⟩ := hA
      exact ⟨β, h.below hb, plain_rv rfl (fun k hk => .inl hk) hr⟩
    case fr e xs =>
      cases hd : lookB d s.bx <;> rw [hd] at hA <;> simp only [] at hA <;> try (cases hA; done)
      simp only [Option.some.injEq, Prod.mk.injEq] at hA
      obtain ⟨rfl, rfl⟩ := hA
      obtain ⟨h1, h2, _⟩ := fr_inv h hb hd (fun k hk => hk.imp id fun hh => hh.2) (fun k hk => hk.imp id fun hh => ⟨rfl, hh⟩) hr
      exact ⟨_, h1, h2⟩
  cases r with
  | tp vs =>
    obtain ⟨arr, rfl, hs, hall⟩ := hr
    simp only [resR] at hres
    cases hq : resL d (lookB d s.bx) vs with
    | none => rw [hq] at hres; cases hres
    | some p =>
      rw [hq] at hres
      simp only [Option.map_some, Option.some.injEq, Prod.mk.injEq] at hres
      obtain ⟨rfl, rfl⟩ := hres
      rcases resL_sound vs _ p hq with ⟨h1, h2, h3⟩ | ⟨hd, j0, e, xs, h1, h2, h3, h4, h5⟩
      · refine ⟨β, by rw [h1]; exact h.below hb, .tp arr p.1 (by rw [h2]; exact hs) fun j av hj => ?_⟩
        rw [h2] at hj
        exact plain_rv (h3 j av hj) (fun k hk => .inl (by rw [h1] at hk; exact hk)) (hall j av hj)
      · have hfb : ∀ k, frBlk vs arr k ↔ blk (arr.getD j0 undef) = some k := fun k => by
          constructor
          · rintro ⟨j, r, hj, hfr, hbk⟩
            by_cases hj0 : j = j0
            · subst hj0; exact hbk
            · have := (h5 j r hj0 hj).2
              rw [plain_fr this] at hfr; cases hfr
          · exact fun hbk => ⟨j0, _, h2, rfl, hbk⟩
        obtain ⟨g1, g2, g3⟩ := fr_inv h hb hd (fun k hk => hk.imp id fun hh => (hfb k).1 hh) (fun k hk => hk.imp id fun hh => (hfb k).2 hh) (hall j0 _ h2)
        refine ⟨_, by rw [h1]; exact g1, .tp arr p.1 (by rw [h4]; exact hs) fun j av hj => ?_⟩
        by_cases hj0 : j = j0
        · subst hj0
          rw [h3] at hj
          injection hj with hj
          subst hj
          rw [h1]; exact g2
        · have hjl : j < vs.length := by rw [← h4]; exact (List.getElem?_eq_some_iff.1 hj).1
          obtain ⟨e1, e2⟩ := h5 j vs[j] hj0 (List.getElem?_eq_getElem hjl)
          rw [e1] at hj
          injection hj with hj
          subst hj
          exact plain_rv e2 (fun k hk => g3 k (by rw [h1] at hk; exact hk)) (hall j _ (List.getElem?_eq_getElem hjl))
  | c x => exact hone hres hr
  | ag ds => exact hone hres hr
  | fr e xs => exact hone hres hr
  | top => exact hone hres hr
  | osl id ver => exact hone hres hr
  | bp id off => exact hone hres hr
  | op id ver i sz off => exact hone hres hr
  | ip ds => exact hone hres hr
  | mp id => exact hone hres hr
  | fn f cs => exact hone hres hr
  | agv vs => exact hone hres hr
  | fsl id rv p => exact hone hres hr
  | fop id rv p j sz off => exact hone hres hr
  | csl id ver lo n sz => exact hone hres hr
  | cfl id rv p n => exact hone hres hr
  | zp T => exact hone hres hr

theorem sc_rp {w w' : World} {M M' : Nat → Prop} {dd : D} {vx : Value} (hs : scD dd = true) (h : Rp w M vx dd) : Rp w' M' vx dd := by
  cases dd with
  | sc c => cases h with | sc _ h1 => exact .sc _ h1
  | sl xs => cases hs

theorem sc_res {w' : World} {B : Nat} {M M' : Nat → Prop} {β' : Nat → Value} {lk : Nat → Box} {r : AV} {vx : Value} (hs : (match r with | .c d => scD d | .ag ds => ds.all scD | _ => false) = true) (hr : ResV X.E w' B M vx r) : RV w' M' β' lk vx r := by
  cases r <;> simp only [] at hs <;> try (cases hs; done)
  case c x => exact .c _ _ (sc_rp hs hr)
  case ag ds =>
    obtain ⟨cs, rfl, h1, h2⟩ := hr
    refine .ag cs ds h1 fun j dd hd => sc_rp ?_ (h2 j dd hd)
    exact List.all_eq_true.1 hs dd (List.mem_of_getElem? hd)

theorem sc_resV {E : Env} {w' : World} {B : Nat} {M M' : Nat → Prop} {r : AV} {vx : Value} (hs : ScV r) (hr : ResV E w' B M vx r) : ResV E w' B M' vx r := by
  cases r <;> simp only [ScV] at hs <;> try (exact hs.elim)
  case c x => exact sc_rp hs hr
  case ag ds =>
    obtain ⟨cs, rfl, h1, h2⟩ := hr
    exact ⟨cs, rfl, h1, fun j dd hd => sc_rp (List.all_eq_true.1 hs dd (List.mem_of_getElem? hd)) (h2 j dd hd)⟩
  case fr e xs =>
    obtain ⟨te, flat, hE, h0, hl, ho, hr⟩ := hr
    exact ⟨te, flat, hE, h0, hl, ho, fun i x j dd hx hd => sc_rp (List.all_eq_true.1 (hs x (List.mem_of_getElem? hx)) dd (List.mem_of_getElem? hd)) (hr i x j dd hx hd)⟩
theorem sc_resW {E : Env} {w' : World} {B : Nat} {M M' : Nat → Prop} {r : AV} {vx : Value} (hs : ScFr r) (hr : ResW E w' B M vx r) : ResW E w' B M' vx r := by
  cases r with
  | tp vs =>
    obtain ⟨arr, rfl, h1, h2⟩ := hr
    exact ⟨arr, rfl, h1, fun j r hj => sc_resV (hs r (List.mem_of_getElem? hj)) (h2 j r hj)⟩
  | c x => exact sc_resV (E := E) (B := B) (r := .c x) hs hr
  | ag ds => exact sc_resV (E := E) (B := B) (r := .ag ds) hs hr
  | fr e xs => exact sc_resV (E := E) (B := B) (r := .fr e xs) hs hr
  | top => exact hs.elim
  | osl id ver => exact hs.elim
  | bp id off => exact hs.elim
  | op id ver i sz off => exact hs.elim
  | ip ds => exact hs.elim
  | mp id => exact hs.elim
  | fn f cs => exact hs.elim
  | agv vs => exact hs.elim
  | fsl id rv p => exact hs.elim
  | fop id rv p j sz off => exact hs.elim
  | csl id ver lo n sz => exact hs.elim
  | cfl id rv p n => exact hs.elim
  | zp T => exact hs.elim

theorem resL_mono {b b' : Box} (hb : b = .dead → b' = .dead) : ∀ (vs : List AV) (p : List AV × Upd), resL d b vs = some p → resL d b' vs = some p
  | [], p, h => h
  | v :: r, p, h => by
    cases v <;> simp only [resL] at h ⊢ <;> try (cases h; done)
    case c x =>
      cases hq : resL d b r with
      | none => rw [hq] at h; cases h
      | some q => rw [hq] at h; rw [resL_mono hb r q hq]; exact h
    case ag ds =>
      cases hq : resL d b r with
      | none => rw [hq] at h; cases h
      | some q => rw [hq] at h; rw [resL_mono hb r q hq]; exact h
    case fr e xs =>
      cases b <;> simp only [] at h <;> try (cases h; done)
      rw [hb rfl]
      exact h

theorem resR_mono {b b' : Box} (hb : b = .dead → b' = .dead) {r : AV} {p : AV × Upd} (h : resR d b r = some p) : resR d b' r = some p := by
  cases r <;> simp only [resR, resA] at h ⊢ <;> try (first | exact h | (cases h; done))
  case tp vs =>
    cases hq : resL d b vs with
    | none => rw [hq] at h; cases h
    | some q => rw [hq] at h; rw [resL_mono hb vs q hq]; exact h
  case fr e xs =>
    cases b <;> simp only [] at h <;> try (cases h; done)
    rw [hb rfl]
    exact h

theorem m_call (h : Inv X s a w β) {fo : Operand} {args : Array Operand} {ts : Array Nat} (ho : o.op = .call ⟨.value fo, args, ts⟩) (hg : Gets X.P X.E d (lookB d s.bx) (callR s.bx (args.toList.map (ev s.fr)) (ev s.fr fo)) v u) : Goes X s a w o v u := by
  unfold callR at hg
  split at hg
  · rename_i f hf
    unfold callN at hg
    split at hg
    · rename_i l u1 hn
      obtain ⟨r, u2, u3, ⟨hcall, hok⟩, hres, hu3, rfl⟩ := hg
      obtain ⟨hfz, hll, hargs⟩ := normL_sound h _ _ _ hn
      have hfv : a.eval fo = .func (.func f) #[] #[] := by
        have := h.ev fo
        rw [hf] at this
        generalize a.eval fo = vf at this
        cases this with
        | fn _ caps _ hs _ =>
          have : caps = #[] := Array.size_eq_zero_iff.1 hs
          rw [this]
      have hI := h.freezeL hfz
      intro K Q hK
      unfold Oper.wp
      rw [run_enter hcall ho hfv, Oper.upon_enter]
      have hc := hok w (MM X (lookB · (u1 ++ s.bx)) β) (args.map a.eval) (fun k hk => hI.lt hk) (by rw [hll]; simp) (fun j av hj => by
        have hjl : j < args.toList.length := by
          have := (List.getElem?_eq_some_iff.1 hj).1
          rw [hll] at this; exact this
        have hx : args.toList[j]? = some args.toList[j] := List.getElem?_eq_getElem hjl
        have e1 : (args.map a.eval).getD j undef = a.eval args.toList[j] := by
          have : j < args.size := hjl
          simp [Array.getD_eq_getD_getElem?, this]
        rw [e1]
        exact hargs u1 hfz (fun _ hp => hp) j _ av hx hj)
      refine hc.mono fun e w' hh => ?_
      obtain ⟨vx, rfl, hbel, hr⟩ := hh
      show K (a.put o.dst vx) w'
      rcases hu3 with rfl | ⟨hsf, rfl⟩
      case inr =>
        obtain ⟨β', g1, g2⟩ := res_sound h hbel (sc_resW hsf hr) hres
        rw [List.append_nil] at hK
        exact hK vx w' β' g1 g2
      cases hsc : isSc r with
      | false =>
        rw [hsc] at hK
        have hdd : resR d (lookB d (u1 ++ s.bx)) r = some (v, u2) := resR_mono (fun hb => by
          rw [lookB_frz_other hfz (by rw [hb]; rfl), hb]) hres
        obtain ⟨β', g1, g2⟩ := res_sound hI hbel hr hdd
        simp only [cond_false] at hK
        have e1 : (u2 ++ u1) ++ s.bx = u2 ++ (u1 ++ s.bx) := List.append_assoc ..
        rw [e1] at hK
        exact hK vx w' β' g1 g2
      | true =>
        rw [hsc] at hK
        simp only [cond_true, List.append_nil] at hK
        have hrv : u2 = [] ∧ v = r ∧ RV w' (MM X (lookB · s.bx) β) β (lookB · s.bx) vx r := by
          cases r <;> simp only [isSc] at hsc <;> try (cases hsc; done)
          case c x =>
            simp only [resR, resA, Option.some.injEq, Prod.mk.injEq] at hres
            exact ⟨hres.2.symm, hres.1.symm, sc_res (B := w.heap.size) (X := X) (r := .c x) hsc hr⟩
          case ag ds =>
            simp only [resR, resA, Option.some.injEq, Prod.mk.injEq] at hres
            exact ⟨hres.2.symm, hres.1.symm, sc_res (B := w.heap.size) (X := X) (r := .ag ds) hsc hr⟩
          case tp vs =>
            simp only [resR] at hres
            cases hq : resL d (lookB d s.bx) vs with
            | none => rw [hq] at hres; cases hres
            | some p =>
              rw [hq] at hres
              simp only [Option.map_some, Option.some.injEq, Prod.mk.injEq] at hres
              obtain ⟨rfl, rfl⟩ := hres
              obtain ⟨arr, rfl, hs, hall⟩ := hr
              rcases resL_sound vs _ p hq with ⟨h1, h2, h3⟩ | ⟨_, j0, e, xs, _, h2, _⟩
              · refine ⟨h1, by rw [h2], .tp arr vs hs fun j av hj => ?_⟩
                refine sc_res (B := w.heap.size) (X := X) (r := av) ?_ (hall j av hj)
                have := List.all_eq_true.1 hsc av (List.mem_of_getElem? hj)
                exact this
              · have := List.all_eq_true.1 hsc _ (List.mem_of_getElem? h2)
                cases this
        obtain ⟨rfl, rfl, hrv⟩ := hrv
        exact hK vx w' β (h.below hbel) hrv
    · exact hg.elim
  · exact hg.elim
  · exact hg.elim
  · exact hg.elim

theorem q_mkfn (h : Inv X s a w β) {f : Fn} {fst caps : Array Operand} (ho : o.op = .makeFunc f fst caps) (hg : Gets X.P X.E d bb (mkFn (caps.toList.map (ev s.fr)) fst.size f) v u) : Quiet X s a w β o v u := by
  unfold mkFn at hg
  split at hg
  · rename_i g
    obtain ⟨h0, hg⟩ := cond_val hg
    obtain ⟨rfl, rfl⟩ := hg
    have hf : fst = #[] := Array.size_eq_zero_iff.1 (by simpa using h0)
    subst hf
    refine ⟨rfl, .func (.func g) #[] (caps.map a.eval), by simp [execOp, ho, Instr.makeFunc], .fn g _ _ (by simp) fun j av hj => ?_⟩
    rw [List.getElem?_map] at hj
    cases hc : caps.toList[j]? with
    | none => rw [hc] at hj; cases hj
    | some x =>
      rw [hc] at hj
      simp only [Option.map_some, Option.some.injEq] at hj
      subst hj
      have hjl : j < caps.size := by simpa using (List.getElem?_eq_some_iff.1 hc).1
      have e1 : (caps.map a.eval).getD j undef = a.eval x := by
        rw [Array.getElem?_toList] at hc
        simp [Array.getD_eq_getD_getElem?, hc]
      rw [e1]; exact h.ev x
  · exact hg.elim

end
end Go.Vx
end

section
set_option linter.unusedVariables false
set_option linter.unusedSimpArgs false
namespace Go.Vx
open Go Go.RowKit Go.MapKept

theorem toList_beq (a b : ByteArray) : (a.data.toList == b.data.toList) = true ↔ a = b := by
  rw [beq_iff_eq]
  cases a; cases b
  simp [Array.toList_inj]

/-- the key's own comparison is the model's -/
theorem keyOK_isKey {E : Env} {P : Program} (hE : EnvOK P E) {kt : Nat} {k : Value} (h : keyOK (kindOf (E kt)) k = true) : ∃ d, P.underlying kt = some d ∧ IsKey d k := by
  cases hT : E kt with
  | none =>
    rw [hT] at h
    cases k <;> simp [keyOK, kindOf] at h
  | some ti =>
    have hty := hE kt ti hT
    rw [hT] at h
    cases k <;> simp only [keyOK, kindOf] at h <;> try (cases h; done)
    · split at h
      · rename_i k' hk
        exact ⟨_, (KindOK.int hty hk).1, by simpa [IsKey] using h⟩
      · cases h
    · split at h
      · rename_i hk
        exact ⟨_, (KindOK.str hty hk).1, trivial⟩
      · cases h

theorem keyEq_iff {kt : TK} {a b : Value} (ha : keyOK kt a = true) (hb : keyOK kt b = true) : ∃ t, keyEq a b = some t ∧ (t = true ↔ a = b) := by
  cases a <;> simp only [keyOK] at ha <;> try (cases ha; done)
  · cases b <;> simp only [keyOK] at hb <;> try (cases hb; done)
    · rename_i k m k' n
      refine ⟨m == n, rfl, ?_⟩
      cases kt <;> simp only [decide_eq_true_eq] at ha hb <;> try (cases ha; done)
      subst ha; subst hb
      simp
    · cases kt <;> simp at ha hb
  · cases b <;> simp only [keyOK] at hb <;> try (cases hb; done)
    · cases kt <;> simp at ha hb
    · rename_i x y
      exact ⟨_, rfl, by rw [toList_beq]; simp⟩


def kv (e : MapEntry) : Value × Value := (e.key, e.val)

theorem find_spec {d : TypeDesc} {kt : TK} {k val : Value} (hk : IsKey d k) (hk2 : keyOK kt k = true) : ∀ (l : List MapEntry) (i : Nat), (∀ x ∈ l, IsKey d x.key ∧ keyOK kt x.key = true) →
    (Instr.findNow d k l i = some none ∧ mfind k (l.map kv) = none ∧ mput k val (l.map kv) = l.map kv ++ [(k, val)]) ∨
    ∃ j e, Instr.findNow d k l i = some (some (i + j, e.val)) ∧ l[j]? = some e ∧ e.key = k ∧ mfind k (l.map kv) = some e.val ∧ mput k val (l.map kv) = (l.map kv).set j (k, val)
  | [], _, _ => .inl ⟨rfl, rfl, rfl⟩
  | e :: es, i, h => by
    obtain ⟨h1, h2⟩ := h e (List.mem_cons_self ..)
    obtain ⟨r, hr, hiff⟩ := sameNow_of_keys hk h1
    obtain ⟨t, ht, hiff2⟩ := keyEq_iff hk2 h2
    have hrt : r = t := by
      cases r <;> cases t <;> simp_all
    subst hrt
    cases r with
    | true => exact .inr ⟨0, e, by simp [Instr.findNow, hr], rfl, (hiff.1 rfl).symm, by simp [mfind, kv, ht], by simp [mput, kv, ht]⟩
    | false =>
      rcases find_spec hk hk2 es (i + 1) (fun x hx => h x (List.mem_cons_of_mem _ hx)) with ⟨g1, g2, g3⟩ | ⟨j, e', g1, g2, g3, g4, g5⟩
      · exact .inl ⟨by simp [Instr.findNow, hr, g1], by simp only [List.map_cons, mfind, kv, ht]; exact g2, by simp only [List.map_cons, mput, kv, ht]; exact congrArg _ g3⟩
      · exact .inr ⟨j + 1, e', by simp [Instr.findNow, hr, g1]; omega, by simpa using g2, g3, by simp only [List.map_cons, mfind, kv, ht]; exact g4, by simp only [List.map_cons, mput, kv, ht, List.set_cons_succ]; exact congrArg _ g5⟩

section
variable {X : Ctx} {s : S} {a : Act} {w : World} {β : Nat → Value} {o : Oper} {d : Nat} {bb : Box} {v : AV} {u : Upd}

theorem m_makeMap (h : Inv X s a w β) (hE : EnvOK X.P X.E) {t : Nat} (ho : o.op = .makeMap t none) (hg : Gets X.P X.E d bb (mkMapAV s.bx d (X.E t)) v u) : Moves X s a w o v u := by
  unfold mkMapAV at hg
  split at hg
  · rename_i ti hT
    split at hg
    · rename_i k e hk
      unfold mkMapK at hg
      obtain ⟨hd, hg⟩ := dead_of hg
      obtain ⟨rfl, rfl⟩ := hg
      have hrun : (execOp a.eval o).run X.P w = .ok (.value (.map (some w.heap.size))) (w.alloc (.map #[] 0)) := by
        simp [execOp, ho, Instr.makeMap]
      have hch : Changed X s w β d (.map k e []) (.map (some w.heap.size)) (w.alloc (.map #[] 0)) := by
        refine ⟨rfl, rfl, rfl, by simp, fun k hk _ => Below.heap_alloc w _ k hk, fun k _ hk => ?_, by rw [hd]; trivial⟩
        injection hk with hk
        subst hk
        exact ⟨.inl (Nat.le_refl _), .inl h.keep.size⟩
      refine ⟨_, _, _, _, hrun, .inl rfl, h.upd hch ⟨w.heap.size, #[], 0, upd1_same _ _ _, .inl h.keep.size, heap_alloc_new w _, rfl, by simp⟩, ?_⟩
      exact .mp d w.heap.size k e [] (by simp [lookB_cons]) (upd1_same _ _ _)
    · exact hg.elim
  · exact hg.elim

theorem map_of (h : Inv X s a w β) {x : Operand} {id : Nat} (hx : ev s.fr x = .mp id) {kt et : Nat} {es : List (Value × Value)} (hl : lookB id s.bx = .map kt et es) :
    ∃ g ents clock, a.eval x = .map (some g) ∧ β id = .map (some g) ∧ X.own g ∧ w.heap[g]? = some (.map ents clock) ∧ ents.toList.map kv = es ∧ ∀ p ∈ es, keyOK (kindOf (X.E kt)) p.1 = true ∧ p.2.oneCell' = true := by
  have hv := h.ev x
  rw [hx] at hv
  generalize a.eval x = vx at hv
  cases hv with
  | mp _ g kt' et' es' hl' hb =>
    have hbox := h.box id
    rw [hl] at hbox
    obtain ⟨g', ents, clock, e1, e2, e3, e4, e5⟩ := hbox
    rw [hb] at e1
    injection e1 with e1
    injection e1 with e1
    subst e1
    exact ⟨g, ents, clock, rfl, hb, e2, e3, e4, e5⟩

theorem ents_ok {P : Program} {E : Env} (hE : EnvOK P E) {kt : Nat} {dd : TypeDesc} (hd : P.underlying kt = some dd) {ents : Array MapEntry} {es : List (Value × Value)} (h : ents.toList.map kv = es) (hk : ∀ p ∈ es, keyOK (kindOf (E kt)) p.1 = true ∧ p.2.oneCell' = true) :
    ∀ x ∈ ents.toList, IsKey dd x.key ∧ keyOK (kindOf (E kt)) x.key = true := fun x hx => by
  have h1 := (hk (kv x) (by rw [← h]; exact List.mem_map_of_mem hx)).1
  obtain ⟨d', hd', hi⟩ := keyOK_isKey hE h1
  rw [hd] at hd'
  injection hd' with hd'
  subst hd'
  exact ⟨hi, h1⟩

theorem q_lookup (h : Inv X s a w β) (hE : EnvOK X.P X.E) {t : Nat} {x k : Operand} {c : Bool} (ho : o.op = .lookup t x k c) (hg : Gets X.P X.E d bb (lookAV X.E s.bx (ev s.fr x) (ev s.fr k) c (X.E t)) v u) : Quiet X s a w β o v u := by
  unfold lookAV at hg
  split at hg
  · rename_i ti hT
    have hty := hE t ti hT
    split at hg
    · rename_i kt et hkd
      have hu := (KindOK.map hty hkd).1
      unfold lookX at hg
      split at hg
      · rename_i id hx
        split at hg
        · rename_i kv0 hkv
          have hkev := eval_sc h hkv
          unfold lookBx at hg
          split at hg
          · rename_i kt' et' es hl
            obtain ⟨hc, hg2⟩ := cond_val hg
            clear hg
            have hg := hg2
            clear hg2
            simp only [Bool.and_eq_true, beq_iff_eq] at hc
            obtain ⟨rfl, rfl, hkey⟩ := hc
            obtain ⟨g, ents, clock, e1, _, _, e3, e4, e5⟩ := map_of h hx hl
            obtain ⟨dd, hdd, hik⟩ := keyOK_isKey hE hkey
            have hgo : (getObj g).run X.P w = .ok (.map ents clock) w := by simp [getObj, Sem.run, e3]
            unfold lookZ at hg
            split at hg
            · rename_i te hte
              split at hg
              · rename_i z hz
                cases hka : kAgg te.kind with
                | true => rw [hka] at hg; exact hg.elim
                | false =>
                  rw [hka] at hg
                  simp only [cond_false] at hg
                  have hety := hE et te hte
                  obtain ⟨i, zv, i1, _, _, i4, i5⟩ := hety.info
                  have hzv : zv = z := by
                    have h1 := hety.one hka i zv i1 i4
                    rw [cells_one h1, hz] at i5
                    simpa using i5
                  subst hzv
                  have hzr : (zeroValue et).run X.P w = .ok zv w := by simp [zeroValue, typeInfo, i1, i4]
                  have hz1 := hety.zero.2 zv (by rw [hz]; exact List.mem_cons_self ..)
                  have hexec : ∀ r, (Instr.lookup t (.map (some g)) kv0 c).run X.P w = .ok r w → (execOp a.eval o).run X.P w = .ok (.value r) w := fun r hr => by
                    simp only [execOp, ho, e1, hkev, Sem.run_bind, hr, Result.andThen_ok, Sem.run_pure]
                  rcases find_spec (val := undef) hik hkey ents.toList 0 (ents_ok hE hdd e4 e5) with ⟨f1, f2, _⟩ | ⟨j, e, f1, f2, f3, f4, _⟩
                  · rw [e4] at f2
                    rw [f2] at hg
                    simp only [lookOpt] at hg
                    have hr : (Instr.lookup t (.map (some g)) kv0 c).run X.P w = .ok (if c then .tuple #[zv, .bool false] else zv) w := by
                      simp [Instr.lookup, run_underlying hu, hgo, MapKept.run_checkKey hdd hik, run_findKey hdd f1, hzr]
                    cases c with
                    | true =>
                      obtain ⟨rfl, rfl⟩ := hg
                      refine ⟨rfl, _, hexec _ hr, .tp _ _ rfl fun j av hj => ?_⟩
                      match j, hj with
                      | 0, hj => simp only [List.getElem?_cons_zero, Option.some.injEq] at hj; subst hj; exact .c _ _ (zD_rp hz1)
                      | 1, hj => simp only [List.getElem?_cons_succ, List.getElem?_cons_zero, Option.some.injEq] at hj; subst hj; exact rv_sc rfl
                      | j + 2, hj => simp at hj
                    | false =>
                      obtain ⟨rfl, rfl⟩ := hg
                      exact ⟨rfl, _, hexec _ hr, .c _ _ (zD_rp hz1)⟩
                  · rw [e4] at f4
                    rw [f4] at hg
                    simp only [lookOpt] at hg
                    have hv1 : e.val.oneCell' = true := (e5 (kv e) (by rw [← e4]; exact List.mem_map_of_mem (List.mem_of_getElem? f2))).2
                    have hr : (Instr.lookup t (.map (some g)) kv0 c).run X.P w = .ok (if c then .tuple #[e.val, .bool true] else e.val) w := by
                      simp [Instr.lookup, run_underlying hu, hgo, MapKept.run_checkKey hdd hik, run_findKey hdd f1]
                    cases c with
                    | true =>
                      obtain ⟨rfl, rfl⟩ := hg
                      refine ⟨rfl, _, hexec _ hr, .tp _ _ rfl fun j av hj => ?_⟩
                      match j, hj with
                      | 0, hj => simp only [List.getElem?_cons_zero, Option.some.injEq] at hj; subst hj; exact rv_sc hv1
                      | 1, hj => simp only [List.getElem?_cons_succ, List.getElem?_cons_zero, Option.some.injEq] at hj; subst hj; exact rv_sc rfl
                      | j + 2, hj => simp at hj
                    | false =>
                      obtain ⟨rfl, rfl⟩ := hg
                      exact ⟨rfl, _, hexec _ hr, rv_sc hv1⟩
              · exact hg.elim
            · exact hg.elim
          · exact hg.elim
        · exact hg.elim
      · exact hg.elim
    · exact hg.elim
  · exact hg.elim

theorem m_mapUpdate (h : Inv X s a w β) (hE : EnvOK X.P X.E) {t : Nat} {x k y : Operand} (ho : o.op = .mapUpdate t x k y) (hg : Gets X.P X.E d bb (updAV X.E s.bx (ev s.fr x) (ev s.fr k) (ev s.fr y) (X.E t)) v u) : Moves X s a w o v u := by
  unfold updAV at hg
  split at hg
  · rename_i ti hT
    have hty := hE t ti hT
    split at hg
    · rename_i kt et hkd
      have hu := (KindOK.map hty hkd).1
      unfold updX at hg
      split at hg
      · rename_i id hx
        split at hg
        · rename_i kv0 vv0 hkv hvv
          have hkev := eval_sc h hkv
          have hvev := eval_sc h hvv
          have hv1 : vv0.oneCell' = true := by
            have := h.ev y
            rw [hvv] at this
            have h1 := this.to_c.one
            rw [hvev] at h1; exact h1
          unfold updBx at hg
          split at hg
          · rename_i kt' et' es hl
            obtain ⟨hc, hg2⟩ := cond_val hg
            clear hg
            have hg := hg2
            clear hg2
            simp only [Bool.and_eq_true, beq_iff_eq] at hc
            obtain ⟨rfl, rfl, hkey⟩ := hc
            obtain ⟨rfl, rfl⟩ := hg
            obtain ⟨g, ents, clock, e1, e2, e20, e3, e4, e5⟩ := map_of h hx hl
            obtain ⟨dd, hdd, hik⟩ := keyOK_isKey hE hkey
            have hgo : (getObj g).run X.P w = .ok (.map ents clock) w := by simp [getObj, Sem.run, e3]
            have hset : ∀ ob : Obj, (setObj g ob).run X.P w = .ok () { w with heap := w.heap.setIfInBounds g ob } := fun ob => by simp [setObj, Sem.run, e3]
            have hlive : live (lookB id s.bx) = true := by rw [hl]; rfl
            have hblk : blk (β id) = some g := by rw [e2]; rfl
            have hgen : ∀ (ents' : Array MapEntry) (clock' : Nat), ents'.toList.map kv = mput kv0 vv0 es → (∀ p ∈ mput kv0 vv0 es, keyOK (kindOf (X.E kt)) p.1 = true ∧ p.2.oneCell' = true) →
                (Instr.mapUpdate t (.map (some g)) kv0 vv0).run X.P w = .ok () { w with heap := w.heap.setIfInBounds g (.map ents' clock') } → Moves X s a w o .top [(id, .map kt et (mput kv0 vv0 es))] := by
              intro ents' clock' h1 h2 hrun
              have hexec : (execOp a.eval o).run X.P w = .ok .skip { w with heap := w.heap.setIfInBounds g (.map ents' clock') } := by
                simp only [execOp, ho, e1, hkev, hvev, Sem.run_bind, hrun, Result.andThen_ok, Sem.run_pure]
              have hch : Changed X s w β id (.map kt et (mput kv0 vv0 es)) (β id) { w with heap := w.heap.setIfInBounds g (.map ents' clock') } := by
                refine ⟨rfl, rfl, rfl, by simp, fun k hk hn => (heap_set e3).2 k ?_, fun k _ hk => ⟨.inr ⟨hlive, hk⟩, ((h.box id).lt hlive hk).2⟩, by rw [hl]; exact ⟨⟨_, _, _, rfl⟩, rfl⟩⟩
                rintro rfl
                exact hn ⟨hlive, (.of hblk)⟩
              exact ⟨_, undef, _, _, hexec, .inr ⟨rfl, rfl⟩, h.upd hch ⟨g, ents', clock', by rw [upd1_same]; exact e2, e20, (heap_set e3).1, h1, h2⟩, .top _⟩
            rcases find_spec (val := vv0) hik hkey ents.toList 0 (ents_ok hE hdd e4 e5) with ⟨f1, _, f3⟩ | ⟨j, e, f1, f2, f3, _, f5⟩
            · rw [e4] at f3
              refine hgen (ents.push { key := kv0, val := vv0, born := clock }) (clock + 1) ?_ ?_ ?_
              · rw [f3, Array.toList_push, List.map_append, e4]; rfl
              · rw [f3]
                intro p hp
                rcases List.mem_append.1 hp with hp | hp
                · exact e5 p hp
                · simp only [List.mem_singleton] at hp
                  subst hp
                  exact ⟨hkey, hv1⟩
              · simp [Instr.mapUpdate, run_underlying hu, hgo, MapKept.run_checkKey hdd hik, run_findKey hdd f1, hset]
            · rw [e4] at f5
              have hj : ents[j]? = some e := by simpa using f2
              refine hgen (ents.modify j fun e => { e with key := kv0, val := vv0 }) clock ?_ ?_ ?_
              · rw [f5, ← e4]
                apply List.ext_getElem?
                intro i
                simp only [List.getElem?_map, Array.getElem?_toList, Array.getElem?_modify, List.getElem?_set, List.length_map, Array.length_toList]
                by_cases hij : j = i
                · subst hij
                  have hlt := (Array.getElem?_eq_some_iff.1 hj).1
                  simp [hj, hlt, kv]
                · simp [hij]
              · rw [f5]
                intro p hp
                rcases List.mem_or_eq_of_mem_set hp with hp | hp
                · exact e5 p hp
                · subst hp
                  exact ⟨hkey, hv1⟩
              · simp [Instr.mapUpdate, run_underlying hu, hgo, MapKept.run_checkKey hdd hik, run_findKey hdd f1, hj, f3, run_keyThatStays hik, hset]
          · exact hg.elim
        · exact hg.elim
      · exact hg.elim
    · exact hg.elim
  · exact hg.elim

end
end Go.Vx
end

section
set_option linter.unusedVariables false
set_option linter.unusedSimpArgs false
namespace Go.Vx
open Go Go.RowKit

/-! ### one operation of a region: its guard -/
def guardR (want : Bool) (run skip : R) : AV → R
  | .c (.sc (.bool t)) => cond want (.br t run skip) (.br t skip run)
  | .tp [] => skip
  | _ => .bad
def dstAt (ops : List Oper) (j : Nat) : Option Nat := match ops[j]? with | some o => o.dst | none => none
def lookO (d : Option Nat) (fr : List (Nat × AV)) : AV := match d with | some d => look d fr | none => .top
def dstN : Option Nat → Nat
  | some d => d
  | none => 0
def opG (E : Env) (all : List Oper) (s : S) (o : Oper) : R :=
  match o.guard with
  | none => opR E s (dstN o.dst) o.op
  | some (j, want) => guardR want (opR E s (dstN o.dst) o.op) (.val (.tp []) []) (lookO (dstAt all j) s.fr)

section
variable {X : Ctx} {s : S} {a : Act} {w : World} {β : Nat → Value} {o : Oper} {d : Nat} {v : AV} {u : Upd}

theorem op_goes (h : Inv X s a w β) (hE : EnvOK X.P X.E) (hg : Gets X.P X.E d (lookB d s.bx) (opR X.E s d o.op) v u) : Goes X s a w o v u := by
  cases ho : o.op <;> rw [ho] at hg <;> simp only [opR] at hg <;> try (exact hg.elim)
  case move x => exact ((q_move h (.inl ho) hg).moves h).goes
  case assign x => exact ((q_move h (.inr ho) hg).moves h).goes
  case pick c x y => exact ((q_pick h ho hg).moves h).goes
  case alloc t => exact (m_alloc h hE ho hg).goes
  case box t x => exact (m_box h ho hg).goes
  case build t ps => exact (m_build h hE ho hg).goes
  case buildSlice t n ps => exact (m_bsl h hE ho hg).goes
  case load t p => exact ((q_load h hE ho hg).moves h).goes
  case store t p x => exact (m_store h hE ho hg).goes
  case nilCheck x => exact ((q_chk h ho hg).moves h).goes
  case binOp op t x y t' => exact ((q_bin h hE ho hg).moves h).goes
  case unOp op t x =>
    cases op <;> simp only [] at hg <;> try (exact hg.elim)
    exact ((q_not h ho hg).moves h).goes
  case convert t t' x => exact ((q_convX h hE ho hg).moves h).goes
  case makeSlice t l c => exact (m_make h hE ho hg).goes
  case slice t x lo hi mx =>
    cases mx with
    | none => exact ((q_slice h hE ho hg).moves h).goes
    | some m => exact hg.elim
  case fieldAddr t x f => exact ((q_field h hE ho hg).moves h).goes
  case field t x f => exact ((q_fieldv h hE ho hg).moves h).goes
  case indexAddr t x i => exact ((q_index h hE ho hg).moves h).goes
  case index t x i => exact ((q_indexv h hE ho hg).moves h).goes
  case makeMap t r =>
    cases r with
    | none => exact (m_makeMap h hE ho hg).goes
    | some _ => exact hg.elim
  case lookup t x k c => exact ((q_lookup h hE ho hg).moves h).goes
  case mapUpdate t x k y => exact (m_mapUpdate h hE ho hg).goes
  case makeFunc f fst caps => exact ((q_mkfn h ho hg).moves h).goes
  case extract x i => exact ((q_ext h ho hg).moves h).goes
  case call c =>
    obtain ⟨f, args, ts⟩ := c
    cases f with
    | value fo => exact m_call h ho hg
    | invoke r m => exact hg.elim
    | builtin b =>
      simp only [] at hg
      unfold bltR at hg
      split at hg
      · rename_i x t ha ht
        obtain ⟨x', hx1, hx2⟩ : ∃ x', args.toList = [x'] ∧ ev s.fr x' = x := by
          cases hl : args.toList with
          | nil => rw [hl] at ha; cases ha
          | cons y r =>
            rw [hl] at ha
            simp only [List.map_cons, List.cons.injEq, List.map_eq_nil_iff] at ha
            exact ⟨y, by rw [ha.2], ha.1⟩
        subst hx2
        exact ((q_len h hE hx1 ht ho hg).moves h).goes
      · rename_i x y t t' ha ht
        obtain ⟨x', y', hx1, hx2, hx3⟩ : ∃ x' y', args.toList = [x', y'] ∧ ev s.fr x' = x ∧ ev s.fr y' = y := by
          cases hl : args.toList with
          | nil => rw [hl] at ha; cases ha
          | cons y r =>
            cases r with
            | nil => rw [hl] at ha; cases ha
            | cons z r =>
              rw [hl] at ha
              simp only [List.map_cons, List.cons.injEq, List.map_eq_nil_iff] at ha
              exact ⟨y, z, by rw [ha.2.2], ha.1, ha.2.1⟩
        subst hx2; subst hx3
        cases htt : (t == t') with
        | true =>
          rw [htt] at hg
          have htt : t = t' := by simpa using htt
          subst htt
          exact (m_append h hE hx1 ht ho hg).goes
        | false =>
          rw [htt] at hg
          exact (m_appStr h hE hx1 ht ho hg).goes
      · rename_i x y t t' ha ht
        obtain ⟨x', y', hx1, hx2, hx3⟩ : ∃ x' y', args.toList = [x', y'] ∧ ev s.fr x' = x ∧ ev s.fr y' = y := by
          cases hl : args.toList with
          | nil => rw [hl] at ha; cases ha
          | cons y r =>
            cases r with
            | nil => rw [hl] at ha; cases ha
            | cons z r =>
              rw [hl] at ha
              simp only [List.map_cons, List.cons.injEq, List.map_eq_nil_iff] at ha
              exact ⟨y, z, by rw [ha.2.2], ha.1, ha.2.1⟩
        subst hx2; subst hx3
        obtain ⟨htt, hg2⟩ := beq_val hg
        subst htt
        exact (m_copy h hE hx1 ht ho hg2).goes
      · rename_i x y ha
        obtain ⟨x', y', hx1, hx2, hx3⟩ : ∃ x' y', args.toList = [x', y'] ∧ ev s.fr x' = x ∧ ev s.fr y' = y := by
          cases hl : args.toList with
          | nil => rw [hl] at ha; cases ha
          | cons y r =>
            cases r with
            | nil => rw [hl] at ha; cases ha
            | cons z r =>
              rw [hl] at ha
              simp only [List.map_cons, List.cons.injEq, List.map_eq_nil_iff] at ha
              exact ⟨y, z, by rw [ha.2.2], ha.1, ha.2.1⟩
        subst hx2; subst hx3
        exact ((q_min h hx1 ho hg).moves h).goes
      · rename_i x y ha
        obtain ⟨x', y', hx1, hx2, hx3⟩ : ∃ x' y', args.toList = [x', y'] ∧ ev s.fr x' = x ∧ ev s.fr y' = y := by
          cases hl : args.toList with
          | nil => rw [hl] at ha; cases ha
          | cons y r =>
            cases r with
            | nil => rw [hl] at ha; cases ha
            | cons z r =>
              rw [hl] at ha
              simp only [List.map_cons, List.cons.injEq, List.map_eq_nil_iff] at ha
              exact ⟨y, z, by rw [ha.2.2], ha.1, ha.2.1⟩
        subst hx2; subst hx3
        exact ((q_max h hx1 ho hg).moves h).goes
      · exact hg.elim

theorem putU_inv {w' : World} {v' : Value} {β' : Nat → Value} (hd : ∀ d, o.dst = some d → d < X.n) (h : Inv X ⟨s.fr, u ++ s.bx⟩ a w' β') (hv : RV w' (MM X (lookB · (u ++ s.bx)) β') β' (lookB · (u ++ s.bx)) v' v) :
    Inv X (putU s o.dst v u) (a.put o.dst v') w' β' := by
  cases hdd : o.dst with
  | none => exact h
  | some d => exact h.putv (hd d hdd) hv

/-- a guarded operation -/
theorem wpOp_goes {ops : Array Oper} {Q : Exit → Act → World → Prop} {K : Act → World → Prop} {i : Nat} (hi : ops[i]? = some o) (h : Inv X s a w β) (hE : EnvOK X.P X.E) (hd : ∀ d, o.dst = some d → d < X.n)
    (hg : Gets X.P X.E (dstN o.dst) (lookB (dstN o.dst) s.bx) (opG X.E ops.toList s o) v u) (hK : ∀ a' w' β', Inv X (putU s o.dst v u) a' w' β' → K a' w') : wpOp X.P ops Q i K a w := by
  unfold wpOp
  simp only [hi]
  have hrun : Gets X.P X.E (dstN o.dst) (lookB (dstN o.dst) s.bx) (opR X.E s (dstN o.dst) o.op) v u → o.wp X.P a w K Q := fun hg =>
    op_goes h hE hg K Q fun v' w' β' h1 h2 => hK _ _ _ (putU_inv hd h1 h2)
  have hskip : v = .tp [] → u = [] → K (a.put o.dst undef) w := fun h1 h2 => by
    subst h1; subst h2
    exact hK _ _ β (putU_inv hd h (.tp #[] [] rfl (by simp)))
  unfold opG at hg
  cases hgd : o.guard with
  | none =>
    rw [hgd] at hg
    have hw : Region.wanted o (yielded ops a.tmps) = true := by simp [Region.wanted, hgd]
    rw [if_pos hw]
    exact .inl (hrun hg)
  | some p =>
    obtain ⟨j, want⟩ := p
    rw [hgd] at hg
    simp only [] at hg
    have hy : Region.wanted o (yielded ops a.tmps) = (yielded ops a.tmps j == some want) := by simp [Region.wanted, hgd]
    rw [hy]
    have hyl : ∀ d, dstAt ops.toList j = some d → yielded ops a.tmps j = (match a.tmps[d]? with | some (.bool b) => some b | _ => none) := fun d hdj => by
      unfold dstAt at hdj
      rw [Array.getElem?_toList] at hdj
      unfold yielded
      cases hoj : ops[j]? with
      | none => rw [hoj] at hdj; cases hdj
      | some oj =>
        rw [hoj] at hdj
        simp only [] at hdj
        simp only [Option.bind_some, hdj]
        rfl
    unfold guardR at hg
    split at hg
    · rename_i t ht
      cases hdj : dstAt ops.toList j with
      | none => rw [hdj] at ht; cases ht
      | some d =>
        rw [hdj] at ht
        simp only [lookO] at ht
        have hv := h.fr d
        rw [ht] at hv
        have hval : a.tmps[d]? = some (.bool t) := by
          rw [Array.getD_eq_getD_getElem?] at hv
          cases hx : a.tmps[d]? with
          | none =>
            rw [hx] at hv
            have := hv.to_c
            simp only [Option.getD_none, undef] at this
            cases this
          | some x =>
            rw [hx] at hv
            have := hv.to_c
            cases this
            rfl
        rw [hyl d hdj, hval]
        simp only []
        cases want <;> simp only [cond_true, cond_false] at hg
        · rcases hg with ⟨ht', hg⟩ | ⟨ht', hg⟩
          · subst ht'
            rw [if_neg (by decide)]
            exact hskip hg.1 hg.2
          · subst ht'
            rw [if_pos (by decide)]
            exact .inl (hrun hg)
        · rcases hg with ⟨ht', hg⟩ | ⟨ht', hg⟩
          · subst ht'
            rw [if_pos (by decide)]
            exact .inl (hrun hg)
          · subst ht'
            rw [if_neg (by decide)]
            exact hskip hg.1 hg.2
    · rename_i ht
      cases hdj : dstAt ops.toList j with
      | none => rw [hdj] at ht; cases ht
      | some d =>
        rw [hdj] at ht
        simp only [lookO] at ht
        have hv := h.fr d
        rw [ht] at hv
        have hno : (match a.tmps[d]? with | some (.bool b) => some b | _ => none) = none := by
          rw [Array.getD_eq_getD_getElem?] at hv
          cases hx : a.tmps[d]? with
          | none => rfl
          | some x =>
            rw [hx] at hv
            simp only [Option.getD_some] at hv
            cases hv
            rfl
        rw [hyl d hdj, hno]
        rw [if_neg (by cases want <;> decide)]
        exact hskip hg.1 hg.2
    · exact hg.elim

end
end Go.Vx
end

section
set_option linter.unusedVariables false
set_option linter.unusedSimpArgs false
namespace Go.Vx
open Go Go.RowKit

/-! ### what an operation reads -/
def rd : Op → List Operand
  | .move x => [x]
  | .assign x => [x]
  | .pick c a b => [c, a, b]
  | .box _ x => [x]
  | .build _ ps => ps.toList.map (·.2)
  | .buildSlice _ _ ps => ps.toList.map (·.2)
  | .load _ p => [p]
  | .store _ p x => [p, x]
  | .nilCheck x => [x]
  | .indexAddr _ x i => [x, i]
  | .index _ x i => [x, i]
  | .fieldAddr _ x _ => [x]
  | .field _ x _ => [x]
  | .slice _ x lo hi _ => x :: (lo.toList ++ hi.toList)
  | .binOp _ _ x y _ => [x, y]
  | .unOp _ _ x => [x]
  | .convert _ _ x => [x]
  | .makeSlice _ l c => [l, c]
  | .extract x _ => [x]
  | .makeFunc _ _ caps => caps.toList
  | .lookup _ x k _ => [x, k]
  | .mapUpdate _ x k y => [x, k, y]
  | .call ⟨f, args, _⟩ => match f with
    | .value f => f :: args.toList
    | _ => args.toList
  | _ => []
def touchy : Op → Bool
  | .slice _ _ _ _ _ => true
  | .load _ _ => true
  | .nilCheck _ => true
  | .convert _ _ _ => true
  | .store _ _ _ => true
  | .alloc _ => true
  | .box _ _ => true
  | .build _ _ => true
  | .buildSlice _ _ _ => true
  | .indexAddr _ _ _ => true
  | .fieldAddr _ _ _ => true
  | .makeSlice _ _ _ => true
  | .makeMap _ _ => true
  | .lookup _ _ _ _ => true
  | .mapUpdate _ _ _ _ => true
  | .call _ => true
  | _ => false
def writy : Op → Bool
  | .store _ _ _ => true
  | .alloc _ => true
  | .box _ _ => true
  | .build _ _ => true
  | .buildSlice _ _ _ => true
  | .makeSlice _ _ _ => true
  | .makeMap _ _ => true
  | .mapUpdate _ _ _ _ => true
  | .call ⟨f, _, _⟩ => match f with
    | .value _ => true
    | .builtin .append => true
    | .builtin .copy => true
    | _ => false
  | _ => false
def tmpsL : List Operand → List Nat
  | [] => []
  | .tmp t :: r => t :: tmpsL r
  | _ :: r => tmpsL r
def readsOf (all : List Oper) (o : Oper) : List Nat :=
  match o.guard with
  | none => tmpsL (rd o.op)
  | some (j, _) => match dstAt all j with
    | some d => d :: tmpsL (rd o.op)
    | none => tmpsL (rd o.op)

theorem ev_local {f1 f2 : List (Nat × AV)} : ∀ {l : List Operand}, (∀ t ∈ tmpsL l, look t f1 = look t f2) → ∀ x ∈ l, ev f1 x = ev f2 x
  | [], _, x, hx => by cases hx
  | y :: r, h, x, hx => by
    have hr : ∀ t ∈ tmpsL r, look t f1 = look t f2 := fun t ht => h t (by cases y <;> simp [tmpsL, ht])
    rcases List.mem_cons.1 hx with rfl | hx
    · cases x with
      | tmp t => exact h t (by simp [tmpsL])
      | const v => rfl
      | global g => rfl
      | func f => rfl
    · exact ev_local hr x hx

section
variable {b1 b2 : List (Nat × Box)}

theorem toD_loc {x : AV} (h : ∀ id ∈ refs x, lookB id b1 = lookB id b2) : toD b1 x = toD b2 x := by
  cases x with
  | osl id ver => simp only [toD, h id (by simp [refs])]
  | fsl id rv p => simp only [toD, h id (by simp [refs])]
  | c d =>
    cases d with
    | sl xs => rfl
    | sc v =>
      cases v <;> first | rfl | skip
      rename_i A n c
      cases A <;> cases n <;> cases c <;> rfl
  | _ => rfl
theorem toDL_loc : ∀ {l : List AV}, (∀ id ∈ refsL l, lookB id b1 = lookB id b2) → toDL b1 l = toDL b2 l
  | [], _ => rfl
  | x :: r, h => by
    simp only [toDL]
    rw [toD_loc fun id hi => h id (by simp [refsL, hi]), toDL_loc fun id hi => h id (by simp [refsL, hi])]
theorem partC_loc {x : AV} (h : ∀ id ∈ refs x, lookB id b1 = lookB id b2) : partC b1 x = partC b2 x := by
  cases x with
  | osl id ver => simp only [partC, h id (by simp [refs])]
  | c d =>
    cases d with
    | sl xs => rfl
    | sc v =>
      cases v <;> first | rfl | skip
      rename_i A n c
      cases A <;> cases n <;> cases c <;> rfl
  | _ => rfl
theorem toDs_loc {x : AV} (h : ∀ id ∈ refs x, lookB id b1 = lookB id b2) : toDs b1 x = toDs b2 x := by
  cases x with
  | osl id ver => simp only [toDs, toD_loc h]
  | fsl id rv p => simp only [toDs, toD_loc h]
  | agv vs => simp only [toDs]; exact toDL_loc h
  | c d => simp only [toDs, toD_loc h]
  | _ => rfl
theorem froz_loc {x : AV} (h : ∀ id ∈ refs x, lookB id b1 = lookB id b2) : froz b1 x = froz b2 x := by
  cases x with
  | osl id ver => simp only [froz, h id (by simp [refs])]
  | _ => rfl
theorem chkA_loc {x : AV} (h : ∀ id ∈ refs x, lookB id b1 = lookB id b2) : chkA b1 x = chkA b2 x := by
  cases x with
  | op id ver i sz off => simp only [chkA, h id (by simp [refs])]
  | _ => rfl
theorem loadP_loc {ti : TI} {x : AV} (h : ∀ id ∈ refs x, lookB id b1 = lookB id b2) : loadP ti b1 x = loadP ti b2 x := by
  cases x with
  | bp id off => simp only [loadP, h id (by simp [refs])]
  | op id ver i sz off => simp only [loadP, h id (by simp [refs])]
  | fop id rv p j sz off => simp only [loadP, h id (by simp [refs])]
  | _ => rfl
theorem loadAV_loc {t : Option TI} {x : AV} (h : ∀ id ∈ refs x, lookB id b1 = lookB id b2) : loadAV b1 x t = loadAV b2 x t := by
  cases t with
  | none => rfl
  | some ti => exact loadP_loc h
theorem rowA_loc {x : AV} {e : Nat} (hx : ∀ id ∈ refs x, lookB id b1 = lookB id b2) : rowA e b1 x = rowA e b2 x := by
  cases x with
  | osl id ver => simp only [rowA, hx id (by simp [refs])]
  | _ => rfl
theorem storeN_loc {E : Env} {x : AV} {id i e v r : Nat} {dt : Option Nat} {rows : List (List (List D))} (hx : ∀ id ∈ refs x, lookB id b1 = lookB id b2) : storeN E b1 id i e v r dt rows x = storeN E b2 id i e v r dt rows x := by
  cases x with
  | osl id' ver =>
    simp only [storeN]
    unfold storeRo
    split
    · rw [rowA_loc hx]
    · rfl
  | _ => rfl
theorem storeX_loc {E : Env} {x : AV} {id ver i off sz : Nat} {b : Box} (hx : ∀ id ∈ refs x, lookB id b1 = lookB id b2) : storeX E b1 id ver i off sz x b = storeX E b2 id ver i off sz x b := by
  cases b with
  | arr e v xs => simp only [storeX, toDs_loc hx]
  | nest e v r dt rows => simp only [storeX, storeN_loc hx]
  | _ => rfl
theorem storeT_loc {E : Env} {x p : AV} {sz : Nat} (hx : ∀ id ∈ refs x, lookB id b1 = lookB id b2) (hp : ∀ id ∈ refs p, lookB id b1 = lookB id b2) : storeT E b1 x sz p = storeT E b2 x sz p := by
  cases p with
  | bp id off => simp only [storeT, hp id (by simp [refs])]
  | op id ver i sz off => simp only [storeT, hp id (by simp [refs]), storeX_loc hx]
  | fop id rv p j sz off => simp only [storeT, hp id (by simp [refs]), toDs_loc hx]
  | _ => rfl
theorem storeAV_loc {E : Env} {x p : AV} {t : Option TI} (hx : ∀ id ∈ refs x, lookB id b1 = lookB id b2) (hp : ∀ id ∈ refs p, lookB id b1 = lookB id b2) : storeAV E b1 x p t = storeAV E b2 x p t := by
  cases t with
  | none => rfl
  | some ti => exact storeT_loc hx hp
theorem indexX_loc {x : AV} {sz : Nat} {n : Int} (h : ∀ id ∈ refs x, lookB id b1 = lookB id b2) : indexX b1 sz n x = indexX b2 sz n x := by
  cases x with
  | osl id ver => simp only [indexX, h id (by simp [refs])]
  | fsl id rv p => simp only [indexX, h id (by simp [refs])]
  | c d => cases d <;> rfl
  | _ => rfl
theorem indexAP_loc {x : AV} {sz len : Nat} {n : Int} (h : ∀ id ∈ refs x, lookB id b1 = lookB id b2) : indexAP b1 sz len n x = indexAP b2 sz len n x := by
  cases x with
  | op id ver i es off => simp only [indexAP, h id (by simp [refs])]
  | _ => rfl
theorem indexI_loc {x i : AV} {sz : Nat} (h : ∀ id ∈ refs x, lookB id b1 = lookB id b2) : indexI b1 sz x i = indexI b2 sz x i := by
  unfold indexI
  split
  · exact indexX_loc h
  · rfl
theorem indexAI_loc {x i : AV} {sz len : Nat} (h : ∀ id ∈ refs x, lookB id b1 = lookB id b2) : indexAI b1 sz len x i = indexAI b2 sz len x i := by
  unfold indexAI
  split
  · exact indexAP_loc h
  · rfl
theorem indexE_loc {x i : AV} {t : Option TI} (h : ∀ id ∈ refs x, lookB id b1 = lookB id b2) : indexE b1 x i t = indexE b2 x i t := by
  cases t with
  | none => rfl
  | some ti => exact indexI_loc h
theorem indexAE_loc {x i : AV} {len : Nat} {t : Option TI} (h : ∀ id ∈ refs x, lookB id b1 = lookB id b2) : indexAE b1 len x i t = indexAE b2 len x i t := by
  cases t with
  | none => rfl
  | some ti => exact indexAI_loc h
theorem indexK_loc {E : Env} {x i : AV} {k : TK} (h : ∀ id ∈ refs x, lookB id b1 = lookB id b2) : indexK E b1 x i k = indexK E b2 x i k := by
  cases k with
  | slice e => exact indexE_loc h
  | array n e => exact indexAE_loc h
  | _ => rfl
theorem indexAddr_loc {E : Env} {x i : AV} {t : Option TI} (h : ∀ id ∈ refs x, lookB id b1 = lookB id b2) : indexAddrAV E b1 x i t = indexAddrAV E b2 x i t := by
  cases t with
  | none => rfl
  | some ti => exact indexK_loc h
theorem fieldP_loc {x : AV} {off : Nat} (h : ∀ id ∈ refs x, lookB id b1 = lookB id b2) : fieldP b1 off x = fieldP b2 off x := by
  cases x with
  | op id ver i es off => simp only [fieldP, h id (by simp [refs])]
  | _ => rfl
theorem fieldF_loc {x : AV} {p : Option (Nat × Nat)} (h : ∀ id ∈ refs x, lookB id b1 = lookB id b2) : fieldF b1 x p = fieldF b2 x p := by
  cases p with
  | none => rfl
  | some p => exact fieldP_loc h
theorem fieldAddr_loc {x : AV} {f : Nat} {t : Option TI} (h : ∀ id ∈ refs x, lookB id b1 = lookB id b2) : fieldAddrAV b1 x f t = fieldAddrAV b2 x f t := by
  cases t with
  | none => rfl
  | some ti =>
    simp only [fieldAddrAV]
    cases ti.kind with
    | struct fs => exact fieldF_loc h
    | _ => rfl
theorem parts_loc {E : Env} {f1 f2 : List (Nat × AV)} {kd : TK} : ∀ {l : List (Nat × Operand)}, (∀ x ∈ l.map (·.2), ev f1 x = ev f2 x) → (∀ x ∈ l.map (·.2), ∀ id ∈ refs (ev f1 x), lookB id b1 = lookB id b2) → partsOf E b1 f1 kd l = partsOf E b2 f2 kd l
  | [], _, _ => rfl
  | (i, x) :: r, h, h' => by
    simp only [partsOf]
    rw [partC_loc (h' x (by simp)), h x (by simp), parts_loc (fun y hy => h y (by simp [hy])) (fun y hy => h' y (by simp at hy ⊢; exact .inr hy))]
theorem rows_loc {f1 f2 : List (Nat × AV)} : ∀ {l : List (Nat × Operand)}, (∀ x ∈ l.map (·.2), ev f1 x = ev f2 x) → (∀ x ∈ l.map (·.2), ∀ id ∈ refs (ev f1 x), lookB id b1 = lookB id b2) → rowsOf b1 f1 l = rowsOf b2 f2 l
  | [], _, _ => rfl
  | (i, x) :: r, h, h' => by
    simp only [rowsOf]
    rw [toDs_loc (h' x (by simp)), h x (by simp), rows_loc (fun y hy => h y (by simp [hy])) (fun y hy => h' y (by simp at hy ⊢; exact .inr hy))]
theorem nests_loc {f1 f2 : List (Nat × AV)} {e : Nat} : ∀ {l : List (Nat × Operand)}, (∀ x ∈ l.map (·.2), ev f1 x = ev f2 x) → (∀ x ∈ l.map (·.2), ∀ id ∈ refs (ev f1 x), lookB id b1 = lookB id b2) → nestsOf e b1 f1 l = nestsOf e b2 f2 l
  | [], _, _ => rfl
  | (i, x) :: r, h, h' => by
    simp only [nestsOf]
    rw [rowA_loc (h' x (by simp)), h x (by simp), nests_loc (fun y hy => h y (by simp [hy])) (fun y hy => h' y (by simp at hy ⊢; exact .inr hy))]
theorem bslO_loc {f1 f2 : List (Nat × AV)} {l : List (Nat × Operand)} {d e n : Nat} {te : TI} {own : Bool} (h : ∀ x ∈ l.map (·.2), ev f1 x = ev f2 x) (h' : ∀ x ∈ l.map (·.2), ∀ id ∈ refs (ev f1 x), lookB id b1 = lookB id b2) : bslO b1 f1 d e n l te own = bslO b2 f2 d e n l te own := by
  cases own with
  | false => simp only [bslO, rows_loc h h']
  | true =>
    simp only [bslO]
    unfold bslN
    split
    · rw [nests_loc h h', rows_loc h h']
    · rfl
theorem nestA_loc {x : AV} (hx : ∀ id ∈ refs x, lookB id b1 = lookB id b2) : nestA b1 x = nestA b2 x := by
  cases x with
  | osl id ver => simp only [nestA, hx id (by simp [refs])]
  | _ => rfl
theorem sliceXl_loc {lo hi : Option AV} {sz : Nat} {x : AV} (hx : ∀ id ∈ refs x, lookB id b1 = lookB id b2) : sliceXl b1 lo hi sz x = sliceXl b2 lo hi sz x := by
  cases x with
  | osl id ver => simp only [sliceXl, hx id (by simp [refs])]
  | fsl id rv p => simp only [sliceXl, hx id (by simp [refs])]
  | c dd => cases dd <;> rfl
  | _ => rfl
theorem sliceAV_loc {E : Env} {lo hi : Option AV} {x : AV} {t : Option TI} (hx : ∀ id ∈ refs x, lookB id b1 = lookB id b2) : sliceAV E b1 lo hi x t = sliceAV E b2 lo hi x t := by
  cases t with
  | none => rfl
  | some ti =>
    simp only [sliceAV]
    cases ti.kind with
    | slice e =>
      simp only [sliceK]
      cases E e with
      | none => rfl
      | some te => simp only [sliceE, sliceXl_loc hx]
    | _ => rfl
theorem froz_refs {x : AV} {id : Nat} (h : id ∈ refs (froz b1 x)) : id ∈ refs x := by
  cases x with
  | osl id' ver =>
    have h : id ∈ refs (frozB id' ver (lookB id' b1)) := h
    unfold frozB at h
    split at h
    · rename_i v xs _
      cases hv : (v == ver) <;> rw [hv] at h
      · exact h
      · simp [refs] at h
    · exact h
  | _ => exact h
theorem lenSl_loc {x : AV} (h : ∀ id ∈ refs x, lookB id b1 = lookB id b2) : lenSl b1 x = lenSl b2 x := by
  cases x with
  | osl id ver => simp only [lenSl, h id (by simp [refs])]
  | fsl id rv p => simp only [lenSl, h id (by simp [refs])]
  | c d =>
    cases d with
    | sl xs => rfl
    | sc v =>
      cases v <;> first | rfl | skip
      rename_i A n c
      cases A <;> cases n <;> cases c <;> rfl
  | _ => rfl
theorem lenM_loc {x : AV} (h : ∀ id ∈ refs x, lookB id b1 = lookB id b2) : lenM b1 x = lenM b2 x := by
  cases x with
  | mp id => simp only [lenM, h id (by simp [refs])]
  | _ => rfl
theorem lenT_loc {x : AV} {t : Option TI} (h : ∀ id ∈ refs x, lookB id b1 = lookB id b2) : lenT b1 x t = lenT b2 x t := by
  cases t with
  | none => rfl
  | some ti =>
    simp only [lenT]
    cases ti.kind with
    | slice e => exact lenSl_loc h
    | map k e => exact lenM_loc h
    | _ => rfl
theorem srcD_loc {x : AV} (h : ∀ id ∈ refs x, lookB id b1 = lookB id b2) : srcD b1 x = srcD b2 x := by
  cases x with
  | osl id ver => simp only [srcD, h id (by simp [refs])]
  | c d =>
    cases d with
    | sl xs => rfl
    | sc v =>
      cases v <;> first | rfl | skip
      rename_i A n c
      cases A <;> cases n <;> cases c <;> rfl
  | _ => rfl
theorem convX_loc {E : Env} {x : AV} {dst src : Option TI} (h : ∀ id ∈ refs x, lookB id b1 = lookB id b2) : convX E b1 x dst src = convX E b2 x dst src := by
  cases src with
  | none => rfl
  | some si =>
    simp only [convX]
    cases si.kind with
    | slice e =>
      simp only [convY]
      cases dst with
      | none => rfl
      | some ti =>
        simp only [convS]
        cases ti.kind with
        | str => simp only [convSK, srcD_loc h]
        | _ => rfl
    | _ => rfl
theorem append_loc {E : Env} {x y : AV} {d tt : Nat} {t : Option TI} (hd : lookB d b1 = lookB d b2) (hx : ∀ id ∈ refs x, lookB id b1 = lookB id b2) (hy : ∀ id ∈ refs y, lookB id b1 = lookB id b2) : appAV E b1 d tt x y t = appAV E b2 d tt x y t := by
  cases t with
  | none => rfl
  | some ti =>
    simp only [appAV]
    cases ti.kind with
    | slice e =>
      simp only [appK]
      cases E e with
      | none => rfl
      | some te =>
        simp only [appE, nestA_loc hy]
        unfold appS
        split
        · congr 1
          cases x with
          | osl id ver => simp only [appNX, hx id (by simp [refs])]
          | c dd => unfold appNX; split <;> first | simp only [hd] | (rename_i hh; cases hh; done) | rfl
          | _ => rfl
        rw [srcD_loc hy]
        cases x with
        | osl id ver => simp only [appX, hx id (by simp [refs])]
        | fsl id rv p => simp only [appX, hx id (by simp [refs])]
        | c dd => unfold appX; split <;> first | simp only [hd] | (rename_i hh; cases hh; done) | rfl
        | _ => rfl
    | _ => rfl
theorem appStr_loc {E : Env} {x y : AV} {d : Nat} {t t' : Option TI} (hd : lookB d b1 = lookB d b2) (hx : ∀ id ∈ refs x, lookB id b1 = lookB id b2) : appStr E b1 d x y t t' = appStr E b2 d x y t t' := by
  unfold appStr
  split
  · congr 1
    unfold appSY
    split
    · cases x with
      | osl id ver => simp only [appSX, hx id (by simp [refs])]
      | c dd => unfold appSX; split <;> first | simp only [hd] | (rename_i hh; cases hh; done) | rfl
      | _ => rfl
    · rfl
  · rfl
theorem srcE_loc {x : AV} (h : ∀ id ∈ refs x, lookB id b1 = lookB id b2) : srcE b1 x = srcE b2 x := by
  cases x with
  | csl id ver lo n sz => simp only [srcE, h id (by simp [refs])]
  | _ => exact srcD_loc h
theorem copy_loc {E : Env} {x y : AV} {t : Option TI} (hx : ∀ id ∈ refs x, lookB id b1 = lookB id b2) (hy : ∀ id ∈ refs y, lookB id b1 = lookB id b2) : cpAV E b1 x y t = cpAV E b2 x y t := by
  cases t with
  | none => rfl
  | some ti =>
    simp only [cpAV]
    cases ti.kind with
    | slice e =>
      simp only [cpK]
      cases E e with
      | none => rfl
      | some te =>
        simp only [cpE, srcE_loc hy]
        congr 1
        cases x with
        | osl id ver => simp only [cpX, hx id (by simp [refs])]
        | csl id ver lo n sz => simp only [cpX, hx id (by simp [refs])]
        | _ => rfl
    | _ => rfl
theorem make_loc {E : Env} {l c : AV} {d : Nat} {t : Option TI} (hd : lookB d b1 = lookB d b2) : mkAV E b1 d l c t = mkAV E b2 d l c t := by
  cases t with
  | none => rfl
  | some ti =>
    simp only [mkAV]
    cases ti.kind with
    | slice e => simp only [mkK, hd]
    | _ => rfl
theorem lookAV_loc {E : Env} {x k : AV} {c : Bool} {t : Option TI} (h : ∀ id ∈ refs x, lookB id b1 = lookB id b2) : lookAV E b1 x k c t = lookAV E b2 x k c t := by
  cases t with
  | none => rfl
  | some ti =>
    simp only [lookAV]
    cases ti.kind with
    | map kt et =>
      cases x with
      | mp id => simp only [lookX, h id (by simp [refs])]
      | _ => rfl
    | _ => rfl
theorem updAV_loc {E : Env} {x k y : AV} {t : Option TI} (h : ∀ id ∈ refs x, lookB id b1 = lookB id b2) : updAV E b1 x k y t = updAV E b2 x k y t := by
  cases t with
  | none => rfl
  | some ti =>
    simp only [updAV]
    cases ti.kind with
    | map kt et =>
      cases x with
      | mp id => simp only [updX, h id (by simp [refs])]
      | _ => rfl
    | _ => rfl
theorem mkMap_loc {d : Nat} {t : Option TI} (hd : lookB d b1 = lookB d b2) : mkMapAV b1 d t = mkMapAV b2 d t := by
  cases t with
  | none => rfl
  | some ti =>
    simp only [mkMapAV]
    cases ti.kind with
    | map kt et => simp only [hd]
    | _ => rfl
theorem normA_loc {x : AV} (h : ∀ id ∈ refs x, lookB id b1 = lookB id b2) : normA b1 x = normA b2 x := by
  cases x with
  | osl id ver => simp only [normA, h id (by simp [refs])]
  | fsl id rv p => simp only [normA, h id (by simp [refs])]
  | agv vs => simp only [normA]; rw [toDL_loc h]
  | c d =>
    cases d with
    | sl xs => rfl
    | sc v =>
      cases v <;> first | rfl | skip
      rename_i A n c
      cases A <;> cases n <;> cases c <;> rfl
  | _ => rfl
theorem refsL_mem {l : List AV} {x : AV} (hx : x ∈ l) {id : Nat} (hi : id ∈ refs x) : id ∈ refsL l := by
  induction l with
  | nil => cases hx
  | cons y r ih =>
    simp only [refsL, List.mem_append]
    rcases List.mem_cons.1 hx with rfl | hx
    · exact .inl hi
    · exact .inr (ih hx)
theorem normL_loc : ∀ {l : List AV}, (∀ x ∈ l, ∀ id ∈ refs x, lookB id b1 = lookB id b2) → normL b1 l = normL b2 l
  | [], _ => rfl
  | x :: r, h => by
    simp only [normL]
    rw [normA_loc (h x (by simp)), normL_loc fun y hy => h y (by simp [hy])]
end

theorem blt_loc {E : Env} {b1 b2 : List (Nat × Box)} {d : Nat} {b : Builtin} {args : List AV} {ts : List Nat} (hd : lookB d b1 = lookB d b2) (h : ∀ x ∈ args, ∀ id ∈ refs x, lookB id b1 = lookB id b2) : bltR E b1 d b args ts = bltR E b2 d b args ts := by
  unfold bltR
  split
  · exact lenT_loc (h _ (by simp))
  · rw [append_loc hd (h _ (by simp)) (h _ (by simp)), appStr_loc hd (h _ (by simp))]
  · rw [copy_loc (h _ (by simp)) (h _ (by simp))]
  · rfl
  · rfl
  · rfl

/-- an operation looks at what it names alone -/
theorem opR_local {E : Env} {s s2 : S} {d : Nat} {o : Op} (h : ∀ x ∈ rd o, ev s.fr x = ev s2.fr x) (hb : touchy o = true → ∀ id ∈ d :: refsL ((rd o).map (ev s.fr)), lookB id s.bx = lookB id s2.bx) : opR E s d o = opR E s2 d o := by
  have hr : touchy o = true → ∀ x ∈ rd o, ∀ id ∈ refs (ev s.fr x), lookB id s.bx = lookB id s2.bx := fun ht x hx id hi =>
    hb ht id (List.mem_cons_of_mem _ (refsL_mem (List.mem_map_of_mem (f := ev s.fr) hx) hi))
  have hd : touchy o = true → lookB d s.bx = lookB d s2.bx := fun ht => hb ht d (List.mem_cons_self ..)
  cases o with
  | move x => simp only [opR, h x (by simp [rd])]
  | assign x => simp only [opR, h x (by simp [rd])]
  | pick c a b => simp only [opR, h c (by simp [rd]), h a (by simp [rd]), h b (by simp [rd])]
  | alloc t => simp only [opR, hd rfl]
  | box t x => simp only [opR, hd rfl, h x (by simp [rd])]
  | build t ps =>
    simp only [opR]
    cases E t with
    | none => rfl
    | some ti => simp only [buildAV, parts_loc (E := E) (kd := ti.kind) h (hr rfl)]
  | buildSlice t n ps =>
    simp only [opR]
    cases E t with
    | none => rfl
    | some ti =>
      simp only [bslAV]
      cases ti.kind with
      | slice e =>
        simp only [bslK]
        cases E e with
        | none => rfl
        | some te => simp only [bslE, bslO_loc h (hr rfl), hd rfl]
      | _ => rfl
  | load t p => simp only [opR, ← h p (by simp [rd]), loadAV_loc (hr rfl p (by simp [rd]))]
  | store t p x => simp only [opR, ← h p (by simp [rd]), ← h x (by simp [rd]), storeAV_loc (hr rfl x (by simp [rd])) (hr rfl p (by simp [rd]))]
  | nilCheck x => simp only [opR, ← h x (by simp [rd]), chkA_loc (hr rfl x (by simp [rd]))]
  | indexAddr t x i => simp only [opR, ← h x (by simp [rd]), ← h i (by simp [rd]), indexAddr_loc (hr rfl x (by simp [rd]))]
  | index t x i => simp only [opR, h x (by simp [rd]), h i (by simp [rd])]
  | fieldAddr t x f => simp only [opR, ← h x (by simp [rd]), fieldAddr_loc (hr rfl x (by simp [rd]))]
  | field t x f => simp only [opR, h x (by simp [rd])]
  | slice t x lo hi mx =>
    have e1 : lo.map (ev s.fr) = lo.map (ev s2.fr) := by
      cases lo with
      | none => rfl
      | some l => simp only [Option.map_some, h l (by simp [rd])]
    have e2 : hi.map (ev s.fr) = hi.map (ev s2.fr) := by
      cases hi with
      | none => rfl
      | some l => simp only [Option.map_some, h l (by simp [rd])]
    simp only [opR, ← h x (by simp [rd]), ← froz_loc (hr rfl x (by simp [rd])), ← e1, ← e2]
    rw [sliceAV_loc fun id hi => hr rfl x (by simp [rd]) id (froz_refs hi)]
  | binOp op t x y t' => simp only [opR, h x (by simp [rd]), h y (by simp [rd])]
  | unOp op t x => simp only [opR, h x (by simp [rd])]
  | convert t t' x => simp only [opR, ← h x (by simp [rd]), convX_loc (hr rfl x (by simp [rd]))]
  | makeSlice t l c => simp only [opR, ← h l (by simp [rd]), ← h c (by simp [rd]), make_loc (hd rfl)]
  | extract x i => simp only [opR, h x (by simp [rd])]
  | makeMap t r =>
    cases r with
    | none => simp only [opR, mkMap_loc (hd rfl)]
    | some _ => rfl
  | lookup t x k c => simp only [opR, ← h x (by simp [rd]), ← h k (by simp [rd]), lookAV_loc (hr rfl x (by simp [rd]))]
  | mapUpdate t x k y => simp only [opR, ← h x (by simp [rd]), ← h k (by simp [rd]), ← h y (by simp [rd]), updAV_loc (hr rfl x (by simp [rd]))]
  | makeFunc f fst caps =>
    have e1 : caps.toList.map (ev s.fr) = caps.toList.map (ev s2.fr) := List.map_congr_left fun x hx => h x (by simpa [rd] using hx)
    simp only [opR, e1]
  | call c =>
    obtain ⟨f, args, ts⟩ := c
    cases f with
    | value f =>
      have e1 : args.toList.map (ev s.fr) = args.toList.map (ev s2.fr) := List.map_congr_left fun x hx => h x (by simp [rd]; exact .inr (by simpa using hx))
      simp only [opR, ← e1, ← h f (by simp [rd]), callR]
      have e2 : normL s.bx (args.toList.map (ev s.fr)) = normL s2.bx (args.toList.map (ev s.fr)) := normL_loc fun x hx => by
        obtain ⟨y, hy, rfl⟩ := List.mem_map.1 hx
        exact hr rfl y (by simp [rd]; exact .inr (by simpa using hy))
      rw [e2]
    | invoke r m => rfl
    | builtin b =>
      have e1 : args.toList.map (ev s.fr) = args.toList.map (ev s2.fr) := List.map_congr_left fun x hx => h x (by simpa [rd] using hx)
      simp only [opR, ← e1]
      exact blt_loc (hd rfl) fun x hx => by
        obtain ⟨y, hy, rfl⟩ := List.mem_map.1 hx
        exact hr rfl y (by simpa [rd] using hy)
  | _ => rfl

theorem opG_local {E : Env} {all : List Oper} {s s2 : S} {o : Oper} (h : ∀ t ∈ readsOf all o, look t s.fr = look t s2.fr)
    (hb : touchy o.op = true → ∀ id ∈ dstN o.dst :: refsL ((rd o.op).map (ev s.fr)), lookB id s.bx = lookB id s2.bx) : opG E all s o = opG E all s2 o := by
  unfold readsOf at h
  unfold opG
  cases hg : o.guard with
  | none =>
    rw [hg] at h
    exact opR_local (ev_local h) hb
  | some p =>
    obtain ⟨j, want⟩ := p
    rw [hg] at h
    simp only [] at h ⊢
    cases hd : dstAt all j with
    | none =>
      rw [hd] at h
      rw [opR_local (ev_local h) hb]
      rfl
    | some d =>
      rw [hd] at h
      rw [opR_local (ev_local fun t ht => h t (List.mem_cons_of_mem _ ht)) hb]
      simp only [lookO]
      rw [h d (List.mem_cons_self ..)]

/-! ### what writes no box -/
def noU : R → Prop
  | .val _ u => u = []
  | .ob _ r => noU r
  | .br _ a b => noU a ∧ noU b
  | .call _ _ _ _ => False
  | .callM _ _ => False
  | .yld _ _ _ _ => False
  | .bad => True
theorem noU_gets {P : Program} {E : Env} {d : Nat} {b : Box} : ∀ {r : R} {v : AV} {u : Upd}, Gets P E d b r v u → noU r → u = []
  | .val v' u', v, u, hg, hn => by obtain ⟨_, rfl⟩ := hg; exact hn
  | .ob p r, v, u, hg, hn => noU_gets (r := r) hg.2 hn
  | .br t x y, v, u, hg, hn => by
    rcases hg with ⟨_, hg⟩ | ⟨_, hg⟩
    · exact noU_gets (r := x) hg hn.1
    · exact noU_gets (r := y) hg hn.2
  | .call _ _ _ _, _, _, _, hn => hn.elim
  | .callM _ _, _, _, hg, _ => hg.elim
  | .yld _ _ _ _, _, _, hg, _ => hg.elim
  | .bad, _, _, hg, _ => hg.elim

theorem noU_iv (v : Value) : noU (iv v) := rfl
theorem noU_cond {t : Bool} {r : R} (h : noU r) : noU (cond t r .bad) := by cases t <;> first | exact h | trivial
theorem noU_head (ds : List D) : noU (headR ds) := by cases ds <;> first | exact rfl | trivial
theorem noU_headA (ds : List AV) : noU (headA ds) := by cases ds <;> first | exact rfl | trivial
theorem noU_ag (n : Nat) (o : Option (List D)) : noU (agR n o) := by
  cases o with
  | none => trivial
  | some ds => exact noU_cond rfl
theorem noU_loadD (ti : TI) (ds : List D) : noU (loadD ti ds) := by unfold loadD; split <;> first | exact noU_ag _ _ | exact noU_head _
theorem noU_agc (n : Nat) (cs : List AV) (o : Option (List D)) : noU (agcR n cs o) := by
  cases o with
  | none => exact noU_cond rfl
  | some ds => exact noU_ag n (some ds)
theorem noU_loadC (ti : TI) (ds : List AV) : noU (loadC ti ds) := by unfold loadC; split <;> first | exact noU_agc _ _ _ | exact noU_headA _
theorem noU_intBin (op : BinOp) (k : IntKind) (x y : Int) : noU (intBin op k x y) := by cases op <;> first | exact rfl | trivial
theorem noU_eqR (o : Option Bool) : noU (eqR o) ∧ noU (neR o) := by cases o <;> exact ⟨by first | exact rfl | trivial, by first | exact rfl | trivial⟩

theorem noU_op {E : Env} {s : S} {d : Nat} {o : Op} (hw : writy o = false) : noU (opR E s d o) := by
  cases o <;> simp only [opR] <;> try (first | exact rfl | (cases hw; done) | trivial)
  case pick c x y => unfold pickR; split <;> first | exact ⟨rfl, rfl⟩ | trivial
  case load t p =>
    unfold loadAV
    split
    · trivial
    · unfold loadP
      split
      · exact noU_loadD _ _
      · unfold loadB
        split
        · exact noU_loadC _ _
        · trivial
      · unfold loadO
        split
        · exact noU_cond (noU_loadD _ _)
        · exact noU_cond rfl
        · trivial
      · unfold loadF
        split
        · exact noU_cond (noU_loadD _ _)
        · trivial
      · trivial
  case nilCheck x =>
    unfold chkA
    split
    · unfold chkO
      split
      · exact noU_cond rfl
      · trivial
    · unfold chkR; split <;> first | exact rfl | trivial
  case indexAddr t x i =>
    have h1 : ∀ (sz : Nat) (n : Int) (x : AV), noU (indexX s.bx sz n x) := fun sz n x => by
      unfold indexX
      split
      · exact rfl
      · unfold indexB
        simp only [noU]
        split <;> first | exact noU_cond rfl | trivial
      · unfold indexF
        simp only [noU]
        split <;> first | exact noU_cond rfl | trivial
      · trivial
    have h2 : ∀ (sz len : Nat) (n : Int) (x : AV), noU (indexAP s.bx sz len n x) := fun sz len n x => by
      unfold indexAP
      split
      · exact rfl
      · unfold curR
        split
        · exact noU_cond rfl
        · trivial
      · exact rfl
      · trivial
    unfold indexAddrAV
    split
    · unfold indexK
      split
      · unfold indexE
        split
        · unfold indexI
          split
          · exact h1 _ _ _
          · trivial
        · trivial
      · unfold indexAE
        split
        · unfold indexAI
          split
          · exact h2 _ _ _ _
          · trivial
        · trivial
      · trivial
    · trivial
  case index t x i =>
    unfold indexAV
    split
    · unfold indexVK
      split
      · split
        · unfold indexS
          split <;> first | exact rfl | trivial
        · trivial
      · trivial
    · trivial
  case fieldAddr t x f =>
    unfold fieldAddrAV
    split
    · unfold fieldK
      split
      · unfold fieldF
        split
        · unfold fieldP
          split
          · exact rfl
          · exact rfl
          · unfold curR
            split
            · exact noU_cond rfl
            · trivial
          · trivial
        · trivial
      · trivial
    · trivial
  case field t x f =>
    unfold fieldAV
    split
    · unfold fieldVK
      split
      · unfold fieldVF
        split
        · unfold fieldVA
          split
          · split <;> first | exact noU_loadD _ _ | trivial
          · split <;> first | exact noU_loadC _ _ | trivial
          · trivial
        · trivial
      · trivial
    · trivial
  case slice t x lo hi mx =>
    refine noU_cond ?_
    unfold sliceAV
    split
    · unfold sliceK
      split
      · unfold sliceE
        split
        · unfold sliceXl
          split
          · unfold cutL
            split <;> first | exact rfl | trivial
          · unfold sliceO
            split
            · refine noU_cond ?_
              unfold cutO
              split <;> first | exact rfl | trivial
            · trivial
          · unfold sliceF
            split
            · refine noU_cond ?_
              unfold cutF
              split <;> first | exact rfl | trivial
            · trivial
          · trivial
        · trivial
      · unfold sliceXs
        split
        · unfold cutS
          split <;> first | exact rfl | trivial
        · trivial
      · trivial
    · trivial
  case binOp op t x y t' =>
    unfold binAV
    split
    · unfold nilT
      split
      · unfold nilK
        split
        · unfold nilB; split <;> first | exact rfl | trivial
        · trivial
      · trivial
    · unfold nilT
      split
      · unfold nilK
        split
        · unfold nilB; split <;> first | exact rfl | trivial
        · trivial
      · trivial
    · unfold nilT
      split
      · unfold nilK
        split
        · unfold nilB; split <;> first | exact rfl | trivial
        · trivial
      · trivial
    · unfold binI
      split
      · exact rfl
      · exact rfl
      · exact noU_cond (noU_intBin _ _ _ _)
    · unfold strBin; split <;> first | exact rfl | trivial
    · unfold boolT
      split
      · unfold boolK
        split
        · unfold boolBin; split <;> first | exact rfl | trivial
        · trivial
      · trivial
    · unfold aggT
      split
      · refine noU_cond ?_
        unfold aggBin
        split
        · exact (noU_eqR _).1
        · exact (noU_eqR _).2
        · trivial
      · trivial
    · trivial
  case unOp op t x =>
    split
    · unfold notR; split <;> first | exact rfl | trivial
    · trivial
  case convert t t' x =>
    have hconv : ∀ si dst, noU (convAV (ev s.fr x) si dst) := fun si dst => by
      unfold convAV
      split
      · split
        · unfold convK
          split
          · split <;> first | exact rfl | trivial
          · split <;> first | exact rfl | trivial
          · trivial
        · trivial
      · trivial
    unfold convX
    split
    · unfold convY
      split
      · unfold convS
        split
        · unfold convSK
          split
          · unfold u8T
            split
            · unfold u8K
              split
              · unfold bytesO
                split
                · unfold strR
                  split <;> first | exact rfl | trivial
                · trivial
              · trivial
            · trivial
          · trivial
        · trivial
      · exact hconv _ _
    · trivial
  case extract x i =>
    unfold extR
    split <;> first | exact noU_headA _ | trivial
  case lookup t x k c =>
    have h1 : ∀ (c : Bool) (z : Value) (r : Option Value), noU (lookOpt c z r) := fun c z r => by
      unfold lookOpt
      cases c <;> split <;> exact rfl
    unfold lookAV
    split
    · split
      · unfold lookX
        split
        · split
          · unfold lookBx
            split
            · refine noU_cond ?_
              unfold lookZ
              split
              · split
                · rename_i te _ _ z hz
                  cases kAgg te.kind
                  · exact h1 _ _ _
                  · trivial
                · trivial
              · trivial
            · trivial
          · trivial
        · trivial
      · trivial
    · trivial
  case makeFunc f fst caps => unfold mkFn; split <;> first | exact noU_cond rfl | trivial
  case call c =>
    obtain ⟨f, args, ts⟩ := c
    cases f with
    | value f => cases hw
    | invoke r m => trivial
    | builtin b =>
      simp only []
      unfold bltR
      split
      · unfold lenT
        split
        · unfold lenK
          split
          · unfold lenSl
            split
            · exact rfl
            · exact rfl
            · unfold lenB
              split <;> first | exact noU_cond rfl | trivial
            · unfold lenF
              split <;> first | exact noU_cond rfl | trivial
            · trivial
          · unfold lenSt
            split <;> first | exact rfl | trivial
          · unfold lenM
            split
            · unfold lenMB
              split <;> first | exact rfl | trivial
            · trivial
          · trivial
        · trivial
      · cases hw
      · cases hw
      · unfold minR; split <;> first | exact rfl | trivial
      · unfold maxR; split <;> first | exact rfl | trivial
      · trivial

/-! ### what is no call -/
def noM : R → Prop
  | .ob _ r => noM r
  | .br _ a b => noM a ∧ noM b
  | .call _ _ _ _ => False
  | .callM _ _ => False
  | .yld _ _ _ _ => False
  | _ => True
theorem noU_noM : ∀ {r : R}, noU r → noM r
  | .val _ _, _ => trivial
  | .ob _ r, h => noU_noM (r := r) h
  | .br _ a b, h => ⟨noU_noM (r := a) h.1, noU_noM (r := b) h.2⟩
  | .call _ _ _ _, h => h.elim
  | .callM _ _, h => h.elim
  | .yld _ _ _ _, h => h.elim
  | .bad, _ => trivial
theorem noM_cond {t : Bool} {r : R} (h : noM r) : noM (cond t r .bad) := by cases t <;> first | exact h | trivial
theorem noM_cond2 {t : Bool} {r r' : R} (h : noM r) (h' : noM r') : noM (cond t r r') := by cases t <;> first | exact h | exact h'
theorem noM_fillCs {E : Env} : ∀ (l : List (Option (Nat × Nat) × Option (List AV))) (cs : List AV), noM (fillCs E l cs)
  | [], cs => by
    simp only [fillCs]
    cases allD cs <;> trivial
  | (none, _) :: r, _ => trivial
  | (some _, none) :: r, _ => trivial
  | (some p, some xs) :: r, cs => noM_cond (noM_fillCs r _)
theorem noM_fillRows {d e sz n : Nat} : ∀ (l : List (Nat × Option (List D × Upd))) (k : Nat) (rows : List (List D)) (u : Upd), noM (fillRows d e sz n l k rows u)
  | [], _, _, _ => noM_cond trivial
  | (_, none) :: r, _, _, _ => trivial
  | (i, some (xs, u')) :: r, k, rows, u => noM_cond (noM_fillRows r _ _ _)
theorem noM_fillNest {d e n : Nat} : ∀ (l : List (Nat × Option (List (List D) × (Nat × Box)))) (k : Nat) (rows : List (List (List D))) (u : Upd), noM (fillNest d e n l k rows u)
  | [], _, _, _ => noM_cond trivial
  | (_, none) :: r, _, _, _ => trivial
  | (i, some (xs, u')) :: r, k, rows, u => noM_cond (noM_fillNest r _ _ _)
theorem noM_op {E : Env} {s : S} {d : Nat} {o : Op} (h : ∀ fo args ts, o ≠ .call ⟨.value fo, args, ts⟩) : noM (opR E s d o) := by
  cases hw : writy o with
  | false => exact noU_noM (noU_op hw)
  | true =>
    have hnew : ∀ (cs : List AV) (b : Box), noM (newB d cs b) := fun cs b => by unfold newB; split <;> trivial
    cases o <;> simp only [opR] <;> try (cases hw; done)
    case alloc t =>
      unfold allocAV
      split
      · exact hnew _ _
      · trivial
    case box t x => exact noM_cond (hnew _ _)
    case build t ps =>
      unfold buildAV
      split
      · exact noM_cond (noM_fillCs _ _)
      · trivial
    case buildSlice t n ps =>
      unfold bslAV
      split
      · unfold bslK
        split
        · unfold bslE
          split
          · split
            · refine noM_cond ?_
              unfold bslO
              split
              · exact noM_fillRows _ _ _ _
              · unfold bslN
                split
                · have h2 : ∀ (b : Bool) (x y : R), noM x → noM y → noM (cond b x y) := fun b x y hx hy => by cases b <;> assumption
                  exact h2 _ _ _ (noM_fillNest _ _ _ _) (noM_fillRows _ _ _ _)
                · trivial
            · trivial
          · trivial
        · trivial
      · trivial
    case store t p x =>
      unfold storeAV
      split
      · unfold storeT
        split
        · refine noM_cond ?_
          unfold storeB
          split
          · exact noM_cond trivial
          · trivial
        · unfold storeX
          split
          · refine noM_cond ?_
            unfold storeN
            split
            · exact noM_cond trivial
            · exact noM_cond trivial
            · unfold storeRo
              split
              · unfold storeR
                split
                · rename_i xs p _
                  cases (p.1 == _) <;> trivial
                · trivial
              · trivial
            · trivial
          · unfold storeO
            split
            · split <;> exact noM_cond trivial
            · trivial
          · trivial
        · unfold storeF
          split
          · split
            · exact noM_cond trivial
            · trivial
          · trivial
        · trivial
      · trivial
    case makeMap t r =>
      cases r with
      | none =>
        simp only []
        unfold mkMapAV
        split
        · split
          · unfold mkMapK; split <;> trivial
          · trivial
        · trivial
      | some _ => trivial
    case mapUpdate t x k y =>
      unfold updAV
      split
      · split
        · unfold updX
          split
          · split
            · unfold updBx
              split
              · exact noM_cond trivial
              · trivial
            · trivial
          · trivial
        · trivial
      · trivial
    case makeSlice t l c =>
      unfold mkAV
      split
      · unfold mkK
        split
        · unfold mkE
          split
          · split
            · split
              · simp only [noM]
                unfold mkB
                split
                · trivial
                · exact noM_cond trivial
              · trivial
            · trivial
          · trivial
        · trivial
      · trivial
    case call c =>
      obtain ⟨f, args, ts⟩ := c
      cases f with
      | value f => exact (h f args ts rfl).elim
      | invoke r m => trivial
      | builtin b =>
        have happ : ∀ (tt : Nat) (x y : AV) (t : Option TI), noM (appAV E s.bx d tt x y t) := fun tt x y t => by
          unfold appAV
          split
          · unfold appK
            split
            · unfold appE
              split
              · unfold appS
                split
                · refine noM_cond ?_
                  unfold appNX
                  split
                  · unfold appNN
                    split
                    · cases (d == _) <;> trivial
                    · trivial
                  · unfold appNO
                    split
                    · exact noM_cond trivial
                    · trivial
                  · trivial
                unfold appX
                have hr : ∀ (sz nb id e ver : Nat) (xs : List (List D)) (o : Option (List (List D))), noM (appR sz nb id e ver xs o) := fun sz nb id e ver xs o => by unfold appR; split <;> trivial
                split
                · unfold appN; split <;> first | exact hr _ _ _ _ _ _ _ | trivial
                · unfold appO
                  split
                  · exact noM_cond (hr _ _ _ _ _ _ _)
                  · trivial
                · unfold appF
                  split
                  · refine noM_cond ?_
                    unfold appFR
                    split <;> trivial
                  · trivial
                · trivial
              · trivial
            · trivial
          · trivial
        have hstr : ∀ (x y : AV) (t t' : Option TI), noM (appStr E s.bx d x y t t') := fun x y t t' => by
          unfold appStr
          split
          · refine noM_cond ?_
            unfold appSY
            split
            · unfold appSX
              have hr : ∀ (sz nb id e ver : Nat) (xs : List (List D)) (o : Option (List (List D))), noM (appR sz nb id e ver xs o) := fun sz nb id e ver xs o => by unfold appR; split <;> trivial
              split
              · unfold appN; split <;> first | exact hr _ _ _ _ _ _ _ | trivial
              · unfold appO
                split
                · exact noM_cond (hr _ _ _ _ _ _ _)
                · trivial
              · trivial
            · trivial
          · trivial
        have hcp : ∀ (x y : AV) (t : Option TI), noM (cpAV E s.bx x y t) := fun x y t => by
          unfold cpAV
          split
          · unfold cpK
            split
            · unfold cpE
              split
              · refine noM_cond ?_
                have hr : ∀ (id e ver lo n : Nat) (xs : List (List D)) (o : Option (List (List D))), noM (cpR id e ver lo n xs o) := fun id e ver lo n xs o => by unfold cpR; split <;> trivial
                unfold cpX
                split
                · unfold cpB
                  split
                  · exact noM_cond (hr _ _ _ _ _ _ _)
                  · trivial
                · unfold cpB
                  split
                  · exact noM_cond (hr _ _ _ _ _ _ _)
                  · trivial
                · trivial
              · trivial
            · trivial
          · trivial
        cases b <;> try (cases hw; done)
        all_goals
          simp only [bltR]
          split <;> first | exact noM_cond2 (happ _ _ _ _) (hstr _ _ _ _) | exact noM_cond (hcp _ _ _) | trivial

theorem noU_opG {E : Env} {all : List Oper} {s : S} {o : Oper} (hw : writy o.op = false) : noU (opG E all s o) := by
  unfold opG
  split
  · exact noU_op hw
  · rename_i j want hgd
    unfold guardR
    split
    · cases want
      · exact ⟨rfl, noU_op hw⟩
      · exact ⟨noU_op hw, rfl⟩
    · exact rfl
    · trivial

theorem writy_touchy {o : Op} (h : writy o = true) : touchy o = true := by
  cases o <;> first | rfl | cases h

end Go.Vx
end

section
set_option linter.unusedVariables false
namespace Go.Vx
open Go Go.RowKit

abbrev Outs := List (AV × Upd)
/-- a path through operations in the text's order: each one's value, and the boxes that it writes -/
inductive Path (P : Program) (E : Env) (all : List Oper) : List Oper → S → Outs → S → Prop
  | nil (s : S) : Path P E all [] s [] s
  | cons (o : Oper) (r : List Oper) (s : S) (v : AV) (u : Upd) (outs : Outs) (s' : S) (h : Gets P E (dstN o.dst) (lookB (dstN o.dst) s.bx) (opG E all s o) v u)
      (h' : Path P E all r (putU s o.dst v u) outs s') : Path P E all (o :: r) s ((v, u) :: outs) s'

/-- the outcomes of those operations that p picks -/
def appL (p : Nat → Bool) : Nat → List Oper → Outs → S → S
  | k, o :: r, x :: outs, s => appL p (k + 1) r outs (cond (p k) (putU s o.dst x.1 x.2) s)
  | _, _, _, s => s

theorem appL_none {p : Nat → Bool} : ∀ (l : List Oper) (outs : Outs) (k : Nat) (s : S), (∀ j, k ≤ j → p j = false) → appL p k l outs s = s
  | [], _, _, _, _ => by unfold appL; rfl
  | o :: r, [], _, _, _ => by unfold appL; rfl
  | o :: r, x :: outs, k, s, h => by
    rw [appL, h k (Nat.le_refl _), cond_false]
    exact appL_none r outs (k + 1) s fun j hj => h j (by omega)

theorem path_at {P : Program} {E : Env} {all l : List Oper} {s s' : S} {outs : Outs} (h : Path P E all l s outs s') : outs.length = l.length ∧ ∀ k, s' = appL (fun _ => true) k l outs s ∧
    ∀ (i : Nat) o, l[i]? = some o → ∃ v u, outs[i]? = some (v, u) ∧ Gets P E (dstN o.dst) (lookB (dstN o.dst) (appL (fun j => decide (j < k + i)) k l outs s).bx) (opG E all (appL (fun j => decide (j < k + i)) k l outs s) o) v u := by
  induction h with
  | nil s => exact ⟨rfl, fun k => ⟨rfl, fun i o hi => by simp at hi⟩⟩
  | cons o r s v u outs s' hg _ ih =>
    obtain ⟨h1, ih⟩ := ih
    refine ⟨by simp [h1], fun k => ⟨by rw [appL, cond_true]; exact (ih (k + 1)).1, fun i oi hi => ?_⟩⟩
    cases i with
    | zero =>
      simp only [List.getElem?_cons_zero, Option.some.injEq] at hi
      subst hi
      refine ⟨v, u, rfl, ?_⟩
      rw [appL_none _ _ k s (fun j hj => by simp; omega)]
      exact hg
    | succ i =>
      simp only [List.getElem?_cons_succ] at hi
      obtain ⟨v', u', e1, e2⟩ := (ih (k + 1)).2 i oi hi
      refine ⟨v', u', by simpa using e1, ?_⟩
      have e3 : (fun j => decide (j < k + (i + 1))) = (fun j => decide (j < k + 1 + i)) := by
        funext j; congr 1; exact propext ⟨fun h => by omega, fun h => by omega⟩
      rw [appL, e3, show decide (k < k + (i + 1)) = true from by simp, cond_true]
      exact e2

theorem look_put {s : S} {d : Option Nat} {v : AV} {u : Upd} (t : Nat) : look t (putU s d v u).fr = if d = some t then v else look t s.fr := by
  cases d with
  | none => simp [putU]
  | some d =>
    simp only [putU, look_cons, Option.some.injEq]
    by_cases h : t = d
    · subst h; simp
    · rw [if_neg h, if_neg fun e => h e.symm]
theorem bx_put {s : S} {d : Option Nat} {v : AV} {u : Upd} : (putU s d v u).bx = u ++ s.bx := by cases d <;> rfl

theorem look_app {p q : Nat → Bool} (t : Nat) : ∀ (l : List Oper) (outs : Outs) (k : Nat) (s s2 : S), (∀ (j : Nat) o, l[j]? = some o → o.dst = some t → p (k + j) = q (k + j)) → look t s.fr = look t s2.fr →
    look t (appL p k l outs s).fr = look t (appL q k l outs s2).fr
  | [], _, _, _, _, _, h => by unfold appL; exact h
  | o :: r, [], _, _, _, _, h => by unfold appL; exact h
  | o :: r, x :: outs, k, s, s2, hp, h => by
    rw [appL, appL]
    refine look_app t r outs (k + 1) _ _ (fun j oj hj hd => ?_) ?_
    · have := hp (j + 1) oj (by simpa using hj) hd
      rwa [show k + (j + 1) = k + 1 + j by omega] at this
    · by_cases hd : o.dst = some t
      · have := hp 0 o rfl hd
        rw [Nat.add_zero] at this
        rw [this]
        cases q k
        · exact h
        · simp only [cond_true, look_put, hd, if_true]
      · have : ∀ (b : Bool) (s : S), look t (cond b (putU s o.dst x.1 x.2) s).fr = look t s.fr := fun b s => by
          cases b
          · rfl
          · simp only [cond_true, look_put, if_neg hd]
        rw [this, this, h]

theorem lookB_app2 {u : Upd} {b1 b2 : List (Nat × Box)} {id : Nat} (h : lookB id b1 = lookB id b2) : lookB id (u ++ b1) = lookB id (u ++ b2) := by
  induction u with
  | nil => exact h
  | cons p r ih => rw [List.cons_append, List.cons_append, lookB_cons, lookB_cons, ih]

theorem box_app {p q : Nat → Bool} (id : Nat) : ∀ (l : List Oper) (outs : Outs) (k : Nat) (s s2 : S), (∀ (j : Nat) x, outs[j]? = some x → id ∈ x.2.map (·.1) → p (k + j) = q (k + j)) → lookB id s.bx = lookB id s2.bx →
    lookB id (appL p k l outs s).bx = lookB id (appL q k l outs s2).bx
  | [], _, _, _, _, _, h => by unfold appL; exact h
  | o :: r, [], _, _, _, _, h => by unfold appL; exact h
  | o :: r, x :: outs, k, s, s2, hp, h => by
    rw [appL, appL]
    refine box_app id r outs (k + 1) _ _ (fun j y hj hd => ?_) ?_
    · have := hp (j + 1) y (by simpa using hj) hd
      rwa [show k + (j + 1) = k + 1 + j by omega] at this
    · by_cases hd : id ∈ x.2.map (·.1)
      · have := hp 0 x rfl hd
        rw [Nat.add_zero] at this
        rw [this]
        cases q k
        · exact h
        · simp only [cond_true, bx_put]; exact lookB_app2 h
      · have hno : ∀ y ∈ x.2, y.1 ≠ id := fun y hy e => hd (e ▸ List.mem_map_of_mem (f := (·.1)) hy)
        have : ∀ (b : Bool) (s : S), lookB id (cond b (putU s o.dst x.1 x.2) s).bx = lookB id s.bx := fun b s => by
          cases b
          · rfl
          · simp only [cond_true, bx_put]; exact notkey hno
        rw [this, this, h]

theorem app_succ : ∀ (l : List Oper) (outs : Outs) (k i : Nat) (s : S) (o : Oper) (x : AV × Upd), l[i]? = some o → outs[i]? = some x →
    appL (fun j => decide (j < k + i + 1)) k l outs s = putU (appL (fun j => decide (j < k + i)) k l outs s) o.dst x.1 x.2
  | [], _, _, _, _, _, _, h, _ => by simp at h
  | _ :: _, [], _, _, _, _, _, _, h => by simp at h
  | o0 :: r, x0 :: outs, k, 0, s, o, x, h1, h2 => by
    simp only [List.getElem?_cons_zero, Option.some.injEq] at h1 h2
    subst h1; subst h2
    rw [appL, show decide (k < k + 0 + 1) = true from by simp, cond_true, appL_none r outs (k + 1) _ (fun j hj => by simp; omega), appL_none _ _ k s (fun j hj => by simp; omega)]
  | o0 :: r, x0 :: outs, k, i + 1, s, o, x, h1, h2 => by
    simp only [List.getElem?_cons_succ] at h1 h2
    rw [appL, appL, show decide (k < k + (i + 1) + 1) = true from by simp; omega, show decide (k < k + (i + 1)) = true from by simp, cond_true]
    have := app_succ r outs (k + 1) i (putU s o0.dst x0.1 x0.2) o x h1 h2
    have e1 : (fun j => decide (j < k + (i + 1) + 1)) = (fun j => decide (j < k + 1 + i + 1)) := by
      funext j; congr 1; exact propext ⟨fun h => by omega, fun h => by omega⟩
    have e2 : (fun j => decide (j < k + (i + 1))) = (fun j => decide (j < k + 1 + i)) := by
      funext j; congr 1; exact propext ⟨fun h => by omega, fun h => by omega⟩
    rw [e1, e2]; exact this

/-! ### the check on a region that draws its order -/
def maskOf (ms : List Nat) : List Edge → Nat
  | [] => 0
  | e :: r => cond (Region.binds .any e) (ms.getD e.on 0 ||| (2 ^ e.on ||| maskOf ms r)) (maskOf ms r)
def masks : List Oper → List Nat → List Nat
  | [], ms => ms
  | o :: r, ms => masks r (ms ++ [maskOf ms o.after.toList])
def disj (l m : List Nat) : Bool := l.all fun x => !m.contains x
def optIn (d : Option Nat) (l : List Nat) : Bool := match d with | some d => l.contains d | none => false
def apartB (all : List Oper) (sus : List (Nat × Nat)) (i j : Nat) (x y : Oper) : Bool :=
  !optIn x.dst (readsOf all y) && (!optIn y.dst (readsOf all x) && ((x.dst.isNone || x.dst != y.dst) &&
    (!touchy x.op || (!touchy y.op || ((!writy x.op && !writy y.op) || sus.contains (i, j))))))
def pairsB (all : List Oper) (sus : List (Nat × Nat)) (m j : Nat) (y : Oper) : Nat → List Oper → Bool
  | _, [] => true
  | i, x :: r => (decide (j ≤ i) || (Nat.testBit m i || apartB all sus i j x y)) && pairsB all sus m j y (i + 1) r
def rowsB (all : List Oper) (sus : List (Nat × Nat)) (ms : List Nat) : Nat → List Oper → Bool
  | _, [] => true
  | j, y :: r => (y.after.toList.all (fun e => !Region.binds .any e || decide (e.on < j)) && pairsB all sus (ms.getD j 0) j y 0 all) && rowsB all sus ms (j + 1) r
def orderB (all : List Oper) (sus : List (Nat × Nat)) : Bool := rowsB all sus (masks all []) 0 all && all.all fun o => match o.op with | .select _ _ => false | _ => true

theorem maskOf_bit {ms : List Nat} {L : Nat → Prop} (hms : ∀ i k, L i → Nat.testBit (ms.getD i 0) k = true → L k) : ∀ (es : List Edge), (∀ e ∈ es, Region.binds .any e = true → L e.on) → ∀ k, Nat.testBit (maskOf ms es) k = true → L k
  | [], _, k, h => by simp [maskOf] at h
  | e :: r, he, k, h => by
    simp only [maskOf] at h
    have hr := maskOf_bit hms r fun x hx => he x (List.mem_cons_of_mem _ hx)
    cases hb : Region.binds .any e <;> rw [hb] at h
    · exact hr k h
    · simp only [cond_true, Nat.testBit_or, Bool.or_eq_true, Nat.testBit_two_pow, decide_eq_true_eq] at h
      have hL := he e (List.mem_cons_self ..) hb
      rcases h with h | h | h
      · exact hms _ k hL h
      · rw [← h]; exact hL
      · exact hr k h

theorem masks_len : ∀ (l : List Oper) (ms : List Nat), (masks l ms).length = ms.length + l.length ∧ ∀ i, i < ms.length → (masks l ms).getD i 0 = ms.getD i 0
  | [], ms => ⟨rfl, fun _ _ => rfl⟩
  | o :: r, ms => by
    obtain ⟨h1, h2⟩ := masks_len r (ms ++ [maskOf ms o.after.toList])
    refine ⟨by rw [masks, h1]; simp; omega, fun i hi => ?_⟩
    rw [masks, h2 i (by simp; omega)]
    simp [List.getD, List.getElem?_append_left hi]

/-- L is closed downward: with an operation, what it is tied behind -/
theorem masks_bit {L : Nat → Prop} : ∀ (l : List Oper) (ms : List Nat), (∀ i k, L i → Nat.testBit (ms.getD i 0) k = true → L k) → (∀ (i : Nat) o, l[i]? = some o → L (ms.length + i) → ∀ e ∈ o.after.toList, Region.binds .any e = true → L e.on) →
    ∀ i k, L i → Nat.testBit ((masks l ms).getD i 0) k = true → L k
  | [], ms, h, _ => h
  | o :: r, ms, h, hd => by
    refine masks_bit r _ (fun i k hL hb => ?_) (fun i oi hi hL => ?_)
    · rw [List.getD_eq_getElem?_getD] at hb
      by_cases hi : i < ms.length
      · rw [List.getElem?_append_left hi, ← List.getD_eq_getElem?_getD] at hb
        exact h i k hL hb
      · rw [List.getElem?_append_right (by omega)] at hb
        by_cases hi0 : i - ms.length = 0
        · rw [hi0] at hb
          simp only [List.getElem?_cons_zero, Option.getD_some] at hb
          exact maskOf_bit h _ (hd 0 o rfl (by rw [Nat.add_zero]; rwa [show i = ms.length by omega] at hL)) k hb
        · have : ([maskOf ms o.after.toList])[i - ms.length]? = none := List.getElem?_eq_none (by simp; omega)
          rw [this] at hb
          simp at hb
    · have := hd (i + 1) oi (by simpa using hi)
      rw [List.length_append] at hL
      simp only [List.length_cons, List.length_nil, Nat.zero_add] at hL
      exact this (by rwa [show ms.length + (i + 1) = ms.length + 1 + i by omega])

theorem pairs_get {all : List Oper} {sus : List (Nat × Nat)} {m j : Nat} {y : Oper} : ∀ {l : List Oper} {k : Nat}, pairsB all sus m j y k l = true → ∀ (i : Nat) x, l[i]? = some x → k + i < j → Nat.testBit m (k + i) = true ∨ apartB all sus (k + i) j x y = true
  | [], _, _, i, x, hx, _ => by simp at hx
  | x0 :: r, k, h, i, x, hx, hlt => by
    simp only [pairsB, Bool.and_eq_true, Bool.or_eq_true, decide_eq_true_eq] at h
    cases i with
    | zero =>
      simp only [List.getElem?_cons_zero, Option.some.injEq] at hx
      subst hx
      rcases h.1 with h1 | h1 | h1
      · omega
      · exact .inl h1
      · exact .inr h1
    | succ i =>
      have := pairs_get h.2 i x (by simpa using hx) (by omega)
      rwa [show k + 1 + i = k + (i + 1) by omega] at this

theorem rows_get {all : List Oper} {sus : List (Nat × Nat)} {ms : List Nat} : ∀ {l : List Oper} {k : Nat}, rowsB all sus ms k l = true → ∀ (i : Nat) y, l[i]? = some y →
    (∀ e ∈ y.after.toList, Region.binds .any e = true → e.on < k + i) ∧ pairsB all sus (ms.getD (k + i) 0) (k + i) y 0 all = true
  | [], _, _, i, x, hx => by simp at hx
  | y0 :: r, k, h, i, y, hy => by
    simp only [rowsB, Bool.and_eq_true, List.all_eq_true, Bool.or_eq_true, decide_eq_true_eq, Bool.not_eq_true'] at h
    cases i with
    | zero =>
      simp only [List.getElem?_cons_zero, Option.some.injEq] at hy
      subst hy
      refine ⟨fun e he hb => ?_, h.1.2⟩
      rcases h.1.1 e he with h1 | h1
      · rw [hb] at h1; cases h1
      · simpa using h1
    | succ i =>
      have := rows_get h.2 i y (by simpa using hy)
      rwa [show k + 1 + i = k + (i + 1) by omega] at this

structure Apart (all : List Oper) (sus : List (Nat × Nat)) (i j : Nat) (x y : Oper) : Prop where
  xy : ∀ d, x.dst = some d → d ∉ readsOf all y
  yx : ∀ d, y.dst = some d → d ∉ readsOf all x
  dd : ∀ d, x.dst = some d → y.dst ≠ some d
  bx : touchy x.op = true → touchy y.op = true → (writy x.op = false ∧ writy y.op = false) ∨ (i, j) ∈ sus

theorem apart_of {all : List Oper} {sus : List (Nat × Nat)} {i j : Nat} {x y : Oper} (h : apartB all sus i j x y = true) : Apart all sus i j x y := by
  simp only [apartB, Bool.and_eq_true, Bool.not_eq_true', Bool.or_eq_true] at h
  obtain ⟨h1, h2, h3, h4⟩ := h
  refine ⟨fun d hd hm => ?_, fun d hd hm => ?_, fun d hd he => ?_, fun ht1 ht2 => ?_⟩
  · rw [hd] at h1
    simp only [optIn] at h1
    have : (readsOf all y).contains d = true := by simpa using hm
    rw [this] at h1; cases h1
  · rw [hd] at h2
    simp only [optIn] at h2
    have : (readsOf all x).contains d = true := by simpa using hm
    rw [this] at h2; cases h2
  · rw [hd, he] at h3
    rcases h3 with h3 | h3
    · cases h3
    · simp at h3
  · rcases h4 with h4 | h4 | h4
    · rw [ht1] at h4; cases h4
    · rw [ht2] at h4; cases h4
    · rcases h4 with h4 | h4
      · exact .inl h4
      · exact .inr (by simpa using h4)

/-- no box, no call: the box at the target says nothing -/
theorem gets_free {P : Program} {E : Env} {d : Nat} {b b' : Box} : ∀ {r : R} {v : AV} {u : Upd}, noU r → Gets P E d b r v u → Gets P E d b' r v u
  | .val v' u', v, u, _, hg => hg
  | .ob p r, v, u, hn, hg => ⟨hg.1, gets_free (r := r) hn hg.2⟩
  | .br t x y, v, u, hn, hg => hg.imp (fun h => ⟨h.1, gets_free (r := x) hn.1 h.2⟩) fun h => ⟨h.1, gets_free (r := y) hn.2 h.2⟩
  | .call _ _ _ _, _, _, hn, _ => hn.elim
  | .callM _ _, _, _, _, hg => hg.elim
  | .bad, _, _, _, hg => hg.elim

section
variable {X : Ctx} {ops : Array Oper} {outs : Outs} {s s' : S} {sus : List (Nat × Nat)} {mm : Nat}

/-- the state after the first i operations, in the text's order -/
def upTo (ops : Array Oper) (outs : Outs) (s : S) (i : Nat) : S := appL (fun j => decide (j < i)) 0 ops.toList outs s
/-- what an operation touches -/
def touched (s : S) (o : Oper) (u : Upd) : List Nat := dstN o.dst :: (refsL ((rd o.op).map (ev s.fr)) ++ u.map (·.1))

/-- the region's facts -/
structure Tied (X : Ctx) (ops : Array Oper) (outs : Outs) (s : S) (sus : List (Nat × Nat)) (mm : Nat) : Prop where
  ord : orderB ops.toList sus = true
  len : outs.length = ops.toList.length
  gets : ∀ (i : Nat) o v u, ops.toList[i]? = some o → outs[i]? = some (v, u) → i ≠ mm → Gets X.P X.E (dstN o.dst) (lookB (dstN o.dst) (upTo ops outs s i).bx) (opG X.E ops.toList (upTo ops outs s i) o) v u
  wr0 : ∀ (i : Nat) o v u, ops.toList[i]? = some o → outs[i]? = some (v, u) → writy o.op = false → u = []
  dyn : ∀ i j x y vx ux vy uy, (i, j) ∈ sus → ops.toList[i]? = some x → ops.toList[j]? = some y → outs[i]? = some (vx, ux) → outs[j]? = some (vy, uy) →
    (∀ id ∈ ux.map (·.1), id ∉ touched (upTo ops outs s j) y uy) ∧ (∀ id ∈ uy.map (·.1), id ∉ touched (upTo ops outs s i) x ux)
  dst : ∀ (i : Nat) o d, ops.toList[i]? = some o → o.dst = some d → d < X.n

/-- the operations of L: closed downward -/
def Closed (ops : Array Oper) (L : Nat → Bool) : Prop := ∀ (i : Nat) o, ops.toList[i]? = some o → L i = true → ∀ e ∈ o.after.toList, Region.binds .any e = true → L e.on = true

theorem Tied.bit (h : Tied X ops outs s sus mm) {L : Nat → Bool} (hL : Closed ops L) {i k : Nat} (hi : L i = true) (hb : Nat.testBit ((masks ops.toList []).getD i 0) k = true) : L k = true :=
  masks_bit (L := fun i => L i = true) ops.toList [] (fun i k _ hb => by simp at hb) (fun i o ho hLi => hL i o ho (by simpa using hLi)) i k hi hb

theorem Tied.pair (h : Tied X ops outs s sus mm) {i j : Nat} {x y : Oper} (hij : i < j) (hx : ops.toList[i]? = some x) (hy : ops.toList[j]? = some y) :
    Nat.testBit ((masks ops.toList []).getD j 0) i = true ∨ Apart ops.toList sus i j x y := by
  have ho := h.ord
  simp only [orderB, Bool.and_eq_true] at ho
  have := (rows_get ho.1 j y hy).2
  rw [Nat.zero_add] at this
  have := pairs_get this i x hx (by omega)
  rw [Nat.zero_add] at this
  exact this.imp id apart_of

theorem Tied.wr (h : Tied X ops outs s sus mm) {i : Nat} {o : Oper} {v : AV} {u : Upd} (hi : ops.toList[i]? = some o) (hu : outs[i]? = some (v, u)) (hw : writy o.op = false) : u = [] :=
  h.wr0 i o v u hi hu hw

/-- which of two that conflict comes first is settled -/
theorem Tied.agree (h : Tied X ops outs s sus mm) {L : Nat → Bool} (hL : Closed ops L) {i k : Nat} {o ok : Oper} {v vk : AV} {u uk : Upd} (hi : ops.toList[i]? = some o) (hu : outs[i]? = some (v, u)) (hk : ops.toList[k]? = some ok) (huk : outs[k]? = some (vk, uk))
    (hLi : L i = false) (hrdy : ∀ e ∈ o.after.toList, Region.binds .any e = true → L e.on = true)
    (hcon : (∃ d, ok.dst = some d ∧ (d ∈ readsOf ops.toList o ∨ (i ≠ k ∧ o.dst = some d))) ∨ (touchy o.op = true ∧ ∃ id ∈ uk.map (·.1), id ∈ touched (upTo ops outs s i) o u)) : i = k ∨ L k = decide (k < i) := by
  by_cases hik : i = k
  · exact .inl hik
  refine .inr ?_
  -- with i added, still closed
  have hL2 : Closed ops (fun j => L j || decide (j = i)) := fun j oj hj hLj e he hb => by
    simp only [Bool.or_eq_true, decide_eq_true_eq] at hLj ⊢
    rcases hLj with hLj | rfl
    · exact .inl (hL j oj hj hLj e he hb)
    · rw [hi] at hj
      injection hj with hj
      subst hj
      exact .inl (hrdy e he hb)
  rcases Nat.lt_or_gt_of_ne hik with hlt | hgt
  · -- i comes first in the text
    have hno : ¬ Apart ops.toList sus i k o ok := fun hA => by
      rcases hcon with ⟨d, hd, hr | ⟨_, hr⟩⟩ | ⟨ht, id, hid, hmem⟩
      · exact hA.yx d hd hr
      · exact hA.dd d hr hd
      · have hwk : writy ok.op = true := by
          cases hw : writy ok.op with
          | true => rfl
          | false =>
            rw [h.wr hk huk hw] at hid
            cases hid
        rcases hA.bx ht (writy_touchy hwk) with ⟨_, h2⟩ | h2
        · rw [hwk] at h2; cases h2
        · exact (h.dyn i k o ok v u vk uk h2 hi hk hu huk).2 id hid hmem
    rcases h.pair hlt hi hk with hb | hA
    · cases hLk : L k with
      | true =>
        have := h.bit hL hLk hb
        rw [hLi] at this; cases this
      | false => simp; omega
    · exact (hno hA).elim
  · have hno : ¬ Apart ops.toList sus k i ok o := fun hA => by
      rcases hcon with ⟨d, hd, hr | ⟨_, hr⟩⟩ | ⟨ht, id, hid, hmem⟩
      · exact hA.xy d hd hr
      · exact hA.dd d hd hr
      · have hwk : writy ok.op = true := by
          cases hw : writy ok.op with
          | true => rfl
          | false =>
            rw [h.wr hk huk hw] at hid
            cases hid
        rcases hA.bx (writy_touchy hwk) ht with ⟨h2, _⟩ | h2
        · rw [hwk] at h2; cases h2
        · exact (h.dyn k i ok o vk uk v u h2 hk hi huk hu).1 id hid hmem
    rcases h.pair hgt hk hi with hb | hA
    · have := h.bit hL2 (i := i) (by simp) hb
      simp only [Bool.or_eq_true, decide_eq_true_eq] at this
      rcases this with h1 | h1
      · rw [h1]; simp; omega
      · exact (hik h1.symm).elim
    · exact (hno hA).elim

theorem Tied.outs_at (h : Tied X ops outs s sus mm) {i : Nat} {o : Oper} (hi : ops.toList[i]? = some o) : ∃ v u, outs[i]? = some (v, u) := by
  have := (List.getElem?_eq_some_iff.1 hi).1
  exact ⟨_, _, List.getElem?_eq_getElem (by rw [h.len]; exact this)⟩

theorem Tied.oper_at (h : Tied X ops outs s sus mm) {i : Nat} {x : AV × Upd} (hi : outs[i]? = some x) : ∃ o, ops.toList[i]? = some o := by
  have := (List.getElem?_eq_some_iff.1 hi).1
  exact ⟨_, List.getElem?_eq_getElem (by rw [← h.len]; exact this)⟩

/-- one more -/
theorem Tied.step (h : Tied X ops outs s sus mm) {L : Nat → Bool} (hL : Closed ops L) {i : Nat} {o : Oper} {v : AV} {u : Upd} (hi : ops.toList[i]? = some o) (hu : outs[i]? = some (v, u))
    (hLi : L i = false) (hrdy : ∀ e ∈ o.after.toList, Region.binds .any e = true → L e.on = true) :
    (i ≠ mm → Gets X.P X.E (dstN o.dst) (lookB (dstN o.dst) (appL L 0 ops.toList outs s).bx) (opG X.E ops.toList (appL L 0 ops.toList outs s) o) v u) ∧
    opG X.E ops.toList (appL L 0 ops.toList outs s) o = opG X.E ops.toList (upTo ops outs s i) o ∧
    (∀ t, look t (putU (appL L 0 ops.toList outs s) o.dst v u).fr = look t (appL (fun j => L j || decide (j = i)) 0 ops.toList outs s).fr) ∧
    ∀ id, lookB id (putU (appL L 0 ops.toList outs s) o.dst v u).bx = lookB id (appL (fun j => L j || decide (j = i)) 0 ops.toList outs s).bx := by
  have hfr : ∀ t ∈ readsOf ops.toList o, look t (appL L 0 ops.toList outs s).fr = look t (upTo ops outs s i).fr := fun t ht =>
    look_app t ops.toList outs 0 s s (fun j oj hj hd => by
      rw [Nat.zero_add]
      obtain ⟨vj, uj, huj⟩ := h.outs_at hj
      rcases h.agree hL hi hu hj huj hLi hrdy (.inl ⟨t, hd, .inl ht⟩) with rfl | he
      · rw [hLi]; simp
      · exact he) rfl
  have hbx : touchy o.op = true → ∀ id ∈ touched (upTo ops outs s i) o u, lookB id (appL L 0 ops.toList outs s).bx = lookB id (upTo ops outs s i).bx := fun ht id hid =>
    box_app id ops.toList outs 0 s s (fun j x hx hd => by
      rw [Nat.zero_add]
      obtain ⟨oj, hj⟩ := h.oper_at hx
      rcases h.agree hL hi hu hj (vk := x.1) (uk := x.2) hx hLi hrdy (.inr ⟨ht, id, hd, hid⟩) with rfl | he
      · rw [hLi]; simp
      · exact he) rfl
  have hloc : opG X.E ops.toList (appL L 0 ops.toList outs s) o = opG X.E ops.toList (upTo ops outs s i) o := (opG_local (fun t ht => (hfr t ht).symm) fun ht id hid => (hbx ht id (by
    rcases List.mem_cons.1 hid with rfl | hid
    · exact List.mem_cons_self ..
    · exact List.mem_cons_of_mem _ (List.mem_append_left _ hid))).symm).symm
  refine ⟨fun him => ?_, hloc, fun t => ?_, fun id => ?_⟩
  · have hg := h.gets i o v u hi hu him
    rw [hloc]
    cases ht : touchy o.op with
    | true =>
      have := hbx ht (dstN o.dst) (List.mem_cons_self ..)
      rw [this]; exact hg
    | false =>
      have hw : writy o.op = false := by
        cases hw : writy o.op with
        | true => rw [writy_touchy hw] at ht; cases ht
        | false => rfl
      exact gets_free (noU_opG hw) hg
  · rw [look_put]
    by_cases hd : o.dst = some t
    · rw [if_pos hd]
      have e1 : look t (appL (fun j => L j || decide (j = i)) 0 ops.toList outs s).fr = look t (appL (fun j => decide (j < 0 + i + 1)) 0 ops.toList outs s).fr :=
        look_app t ops.toList outs 0 s s (fun j oj hj hdj => by
          rw [Nat.zero_add]
          by_cases hij : j = i
          · subst hij; simp
          · obtain ⟨vj, uj, huj⟩ := h.outs_at hj
            rcases h.agree hL hi hu hj huj hLi hrdy (.inl ⟨t, hdj, .inr ⟨fun e => hij e.symm, hd⟩⟩) with he | he
            · exact (hij he.symm).elim
            · rw [he]
              simp only [hij, decide_false, Bool.or_false]
              congr 1
              exact propext ⟨fun h => by omega, fun h => by omega⟩) rfl
      rw [e1, app_succ ops.toList outs 0 i s o (v, u) hi hu, look_put, if_pos hd]
    · rw [if_neg hd]
      refine look_app t ops.toList outs 0 s s (fun j oj hj hdj => ?_) rfl
      rw [Nat.zero_add]
      have hij : j ≠ i := by
        rintro rfl
        rw [hi] at hj
        injection hj with hj
        subst hj
        exact hd hdj
      simp [hij]
  · rw [bx_put]
    by_cases hid : id ∈ u.map (·.1)
    · have ht : touchy o.op = true := by
        cases hw : writy o.op with
        | true => exact writy_touchy hw
        | false =>
          rw [h.wr hi hu hw] at hid
          cases hid
      have hmem : id ∈ touched (upTo ops outs s i) o u := List.mem_cons_of_mem _ (List.mem_append_right _ hid)
      have e1 : lookB id (appL (fun j => L j || decide (j = i)) 0 ops.toList outs s).bx = lookB id (appL (fun j => decide (j < 0 + i + 1)) 0 ops.toList outs s).bx :=
        box_app id ops.toList outs 0 s s (fun j x hx hdj => by
          rw [Nat.zero_add]
          by_cases hij : j = i
          · subst hij; simp
          · obtain ⟨oj, hj⟩ := h.oper_at hx
            rcases h.agree hL hi hu hj (vk := x.1) (uk := x.2) hx hLi hrdy (.inr ⟨ht, id, hdj, hmem⟩) with he | he
            · exact (hij he.symm).elim
            · rw [he]
              simp only [hij, decide_false, Bool.or_false]
              congr 1
              exact propext ⟨fun h => by omega, fun h => by omega⟩) rfl
      rw [e1, app_succ ops.toList outs 0 i s o (v, u) hi hu, bx_put]
      have := hbx ht id hmem
      refine lookB_app2 (this.trans ?_)
      show lookB id (appL (fun j => decide (j < i)) 0 ops.toList outs s).bx = lookB id (appL (fun j => decide (j < 0 + i)) 0 ops.toList outs s).bx
      rw [Nat.zero_add]
    · rw [notkey (fun p hp (e : p.1 = id) => hid (e ▸ List.mem_map_of_mem (f := (·.1)) hp))]
      refine box_app id ops.toList outs 0 s s (fun j x hx hdj => ?_) rfl
      rw [Nat.zero_add]
      have hij : j ≠ i := by
        rintro rfl
        rw [hu] at hx
        injection hx with hx
        subst hx
        exact hid hdj
      simp [hij]

end
end Go.Vx
end

section
set_option linter.unusedVariables false
set_option linter.unusedSimpArgs false
namespace Go.Vx
open Go Go.RowKit

section
variable {X : Ctx} {ops : Array Oper} {outs : Outs} {s s' : S} {sus : List (Nat × Nat)} {mm : Nat} {Q : Exit → Act → World → Prop} {a : Act} {w : World} {β : Nat → Value}

theorem path_text (hE : EnvOK X.P X.E) (hd : ∀ (i : Nat) o d, ops.toList[i]? = some o → o.dst = some d → d < X.n) (hQ : ∀ a w β, Inv X s' a w β → Q .normal a w) :
    ∀ {l : List Oper} {s : S} {outs : Outs} (_ : Path X.P X.E ops.toList l s outs s') (k : Nat) (a : Act) (w : World) (β : Nat → Value), (∀ j, l[j]? = ops.toList[k + j]?) → Inv X s a w β → wpOps X.P ops Q (List.range' k l.length) a w := by
  intro l s outs h
  induction h with
  | nil s =>
    intro k a w β _ hI
    exact hQ a w β hI
  | cons o r s v u outs s' hg _ ih =>
    intro k a w β hl hI
    have ho : ops[k]? = some o := by
      have := hl 0
      rw [Nat.add_zero, Array.getElem?_toList (xs := ops)] at this
      rw [← this]; rfl
    rw [List.length_cons, List.range'_succ, wpOps_cons]
    refine wpOp_goes ho hI hE (fun d hdd => hd k o d (by rw [Array.getElem?_toList]; exact ho) hdd) hg fun a' w' β' hI' => ?_
    exact ih hQ (k + 1) a' w' β' (fun j => by
      have := hl (j + 1)
      rw [List.getElem?_cons_succ] at this
      rw [this]
      congr 1; omega) hI'

theorem countP_lt {p q : Nat → Bool} : ∀ {l : List Nat} {i : Nat}, (∀ x, q x = true → p x = true) → i ∈ l → p i = true → q i = false → l.countP q < l.countP p
  | [], _, _, h, _, _ => by cases h
  | y :: r, i, hq, hi, hp, hn => by
    have hle : r.countP q ≤ r.countP p := List.countP_mono_left fun x _ => hq x
    rw [List.countP_cons, List.countP_cons]
    rcases List.mem_cons.1 hi with rfl | hi
    · rw [hp, hn]
      simp only [if_true, Bool.false_eq_true, if_false]; omega
    · have := countP_lt hq hi hp hn
      cases hy : q y with
      | true => rw [hq y hy]; omega
      | false => simp only [Bool.false_eq_true, if_false]; split <;> omega

/-- the operation mm goes by a rule of its own -/
def GoesM (X : Ctx) (ops : Array Oper) (outs : Outs) (s : S) (mm : Nat) (Q : Exit → Act → World → Prop) : Prop := ∀ (L : Nat → Bool) o v u, Closed ops L → ops.toList[mm]? = some o → outs[mm]? = some (v, u) → L mm = false → (∀ e ∈ o.after.toList, Region.binds .any e = true → L e.on = true) →
  ∀ a w β, Inv X (appL L 0 ops.toList outs s) a w β → ∀ K : Act → World → Prop, (∀ a' w' β', Inv X (putU (appL L 0 ops.toList outs s) o.dst v u) a' w' β' → K a' w') → wpOp X.P ops Q mm K a w

theorem Tied.any (hT : Tied X ops outs s sus mm) (hM : GoesM X ops outs s mm Q) (hE : EnvOK X.P X.E) (hQ : ∀ a w β, Inv X (appL (fun _ => true) 0 ops.toList outs s) a w β → Q .normal a w) :
    ∀ (fuel : Nat) (listed : Array Bool) (a : Act) (w : World) (β : Nat → Value), listed.size = ops.size → (List.range ops.size).countP (fun i => !listed.getD i true) ≤ fuel → Closed ops (fun j => listed.getD j false) →
      Inv X (appL (fun j => listed.getD j false) 0 ops.toList outs s) a w β → wpAny X.P .any ops Q fuel listed a w := by
  have hgd : ∀ (listed : Array Bool) (i : Nat), listed.size = ops.size → i < ops.size → listed.getD i true = listed.getD i false := fun listed i hs hi => by
    simp [Array.getD, hs, hi]
  have hdone : ∀ (listed : Array Bool) (a : Act) (w : World) (β : Nat → Value), listed.size = ops.size → Region.ready .any ops listed = [] → Inv X (appL (fun j => listed.getD j false) 0 ops.toList outs s) a w β → Q .normal a w := by
    intro listed a w β hs hr hI
    have hall : ∀ n i, i < n → i < ops.size → listed.getD i false = true := by
      intro n
      induction n with
      | zero => intro i hi; omega
      | succ n ih =>
        intro i hi hlt
        cases hl : listed.getD i false with
        | true => rfl
        | false =>
          have hmem : i ∈ Region.ready .any ops listed := by
            rw [mem_ready]
            refine ⟨by rw [hgd listed i hs hlt]; exact hl, ops[i], by simp [hlt], fun e he hb => ?_⟩
            have ho := hT.ord
            simp only [orderB, Bool.and_eq_true] at ho
            have := (rows_get ho.1 i ops[i] (by simp [hlt])).1 e (by simpa using he) hb
            rw [Nat.zero_add] at this
            exact ih e.on (by omega) (by omega)
          rw [hr] at hmem
          cases hmem
    refine hQ a w β (hI.congr (fun t => look_app t ops.toList outs 0 s s (fun j oj hj _ => ?_) rfl) fun id => box_app id ops.toList outs 0 s s (fun j x hj _ => ?_) rfl)
    · rw [Nat.zero_add]
      have := (List.getElem?_eq_some_iff.1 hj).1
      exact (hall _ j (Nat.lt_succ_self j) (by simpa using this)).symm
    · rw [Nat.zero_add]
      have := (List.getElem?_eq_some_iff.1 hj).1
      rw [hT.len] at this
      exact (hall _ j (Nat.lt_succ_self j) (by simpa using this)).symm
  intro fuel
  induction fuel with
  | zero =>
    intro listed a w β hs hc _ hI
    have hr : Region.ready .any ops listed = [] := by
      cases hr : Region.ready .any ops listed with
      | nil => rfl
      | cons i r =>
        have hi : i ∈ Region.ready .any ops listed := by rw [hr]; exact List.mem_cons_self ..
        obtain ⟨h1, o, h2, _⟩ := mem_ready.1 hi
        have hlt := (Array.getElem?_eq_some_iff.1 h2).1
        have := List.countP_eq_zero.1 (Nat.le_zero.1 hc) i (List.mem_range.2 hlt)
        rw [h1] at this
        exact (this rfl).elim
    exact ⟨hr, hdone listed a w β hs hr hI⟩
  | succ fuel ih =>
    intro listed a w β hs hc hcl hI
    refine ⟨fun hr => hdone listed a w β hs hr hI, fun i hi => ?_⟩
    obtain ⟨h1, o, h2, h3⟩ := mem_ready.1 hi
    have hlt := (Array.getElem?_eq_some_iff.1 h2).1
    have h2' : ops.toList[i]? = some o := by rw [Array.getElem?_toList]; exact h2
    obtain ⟨v, u, hu⟩ := hT.outs_at h2'
    have hLi : listed.getD i false = false := by rw [← hgd listed i hs hlt]; exact h1
    have hrdy : ∀ e ∈ o.after.toList, Region.binds .any e = true → listed.getD e.on false = true := fun e he hb => h3 e (by simpa using he) hb
    obtain ⟨g1, _, g2, g3⟩ := hT.step hcl h2' hu hLi hrdy
    have hgo : ∀ K : Act → World → Prop, (∀ a' w' β', Inv X (putU (appL (fun j => listed.getD j false) 0 ops.toList outs s) o.dst v u) a' w' β' → K a' w') → wpOp X.P ops Q i K a w := fun K hK => by
      by_cases him : i = mm
      · subst him
        exact hM _ o v u hcl h2' hu hLi hrdy a w β hI K hK
      · exact wpOp_goes h2 hI hE (fun d hd => hT.dst i o d h2' hd) (g1 him) hK
    refine hgo _ fun a' w' β' hI' => ?_
    have hset : ∀ j, (listed.setIfInBounds i true).getD j false = (listed.getD j false || decide (j = i)) := fun j => by
      by_cases hij : j = i
      · subst hij
        simp [hs, hlt]
      · rw [getD_set_ne false (fun e => hij e.symm)]
        simp [hij]
    have hset' : (fun j => (listed.setIfInBounds i true).getD j false) = (fun j => listed.getD j false || decide (j = i)) := funext hset
    refine ih _ a' w' β' (by simpa using hs) ?_ ?_ ?_
    · have := countP_lt (p := fun j => !listed.getD j true) (q := fun j => !(listed.setIfInBounds i true).getD j true) (l := List.range ops.size) (i := i) (fun x hx => by
        by_cases hxi : x = i
        · subst hxi
          simp only [Bool.not_eq_true'] at hx ⊢
          exact h1
        · simp only [Bool.not_eq_true'] at hx ⊢
          rw [getD_set_ne true (fun e => hxi e.symm)] at hx
          exact hx) (List.mem_range.2 hlt) (by simp [h1]) (by simp [hs, hlt])
      omega
    · rw [hset']
      intro j oj hj hLj e he hb
      simp only [Bool.or_eq_true, decide_eq_true_eq] at hLj ⊢
      rcases hLj with hLj | rfl
      · exact .inl (hcl j oj hj hLj e he hb)
      · rw [h2'] at hj
        injection hj with hj
        subst hj
        exact .inl (hrdy e he hb)
    · rw [hset']
      exact hI'.congr (fun t => (g2 t).symm) fun id => (g3 id).symm

/-- a region that draws its order -/
theorem region_any (hE : EnvOK X.P X.E) (hT : Tied X ops outs s sus mm) (hM : GoesM X ops outs s mm Q) (hI : Inv X s a w β) (hQ : ∀ a w β, Inv X (appL (fun _ => true) 0 ops.toList outs s) a w β → Q .normal a w) :
    wpAny X.P .any ops Q ops.size (Array.replicate ops.size false) a { w with drawn := w.drawn + 1 } := by
  refine hT.any hM hE hQ ops.size _ a _ β (by simp) ?_ ?_ ?_
  · exact Nat.le_trans List.countP_le_length (by simp)
  · intro i o _ hL
    simp only [Array.getD_eq_getD_getElem?, Array.getElem?_replicate] at hL
    split at hL <;> simp at hL
  · rw [appL_none _ _ _ _ fun j _ => by
      simp only [Array.getD_eq_getD_getElem?, Array.getElem?_replicate]
      split <;> rfl]
    exact hI.draw rfl rfl rfl rfl

end
end Go.Vx
end

section
set_option linter.unusedVariables false
set_option linter.unusedSimpArgs false
namespace Go.Vx
open Go Go.RowKit

/-- operation j is tied behind all that is ahead of it -/
def sufJ (all : List Oper) (j : Nat) : Bool := (List.range j).all (fun k => Nat.testBit ((masks all []).getD j 0) k)
def backJ (j : Nat) : Option Oper → Bool
  | some o => o.after.toList.all (fun e => !Region.binds .any e || decide (e.on < j))
  | none => true
def guardLt (m : Nat) (o : Oper) : Bool := match o.guard with
  | none => true
  | some g => decide (g.1 < m)
def cutB (all : List Oper) (m : Nat) : Bool := Nat.ble m all.length && ((List.range all.length).all (fun j => backJ j all[j]? && (decide (j < m) || sufJ all j)) && (all.take m).all (guardLt m))

section
variable {P : Program} {ops : Array Oper} {m : Nat} {Q Q0 : Exit → Act → World → Prop}

theorem cut_le (h : cutB ops.toList m = true) : m ≤ ops.size := by
  simp only [cutB, Bool.and_eq_true] at h
  simpa using Nat.le_of_ble_eq_true h.1
theorem cut_back (h : cutB ops.toList m = true) {j : Nat} {o : Oper} (ho : ops[j]? = some o) : ∀ e ∈ o.after.toList, Region.binds .any e = true → e.on < j := by
  simp only [cutB, Bool.and_eq_true, List.all_eq_true] at h
  have hlt := (Array.getElem?_eq_some_iff.1 ho).1
  have := (h.2.1 j (by simpa using hlt)).1
  rw [Array.getElem?_toList, ho] at this
  simp only [backJ, List.all_eq_true, Bool.or_eq_true, Bool.not_eq_true', decide_eq_true_eq] at this
  intro e he hb
  rcases this e he with h | h
  · rw [hb] at h; cases h
  · exact h
theorem cut_suf (h : cutB ops.toList m = true) {j : Nat} (hj : m ≤ j) (hlt : j < ops.size) : ∀ k, k < j → Nat.testBit ((masks ops.toList []).getD j 0) k = true := by
  simp only [cutB, Bool.and_eq_true, List.all_eq_true] at h
  have := (h.2.1 j (by simpa using hlt)).2
  rw [decide_eq_false (by omega), Bool.false_or, sufJ, List.all_eq_true] at this
  intro k hk
  exact this k (by simpa using hk)
/-- where operation j is ready, all that is ahead of it has been done -/
theorem suf_ready (h : cutB ops.toList m = true) {L : Nat → Bool} (hL : Closed ops L) {j : Nat} {o : Oper} (hj : m ≤ j) (ho : ops[j]? = some o) (hr : ∀ e ∈ o.after.toList, Region.binds .any e = true → L e.on = true) : ∀ k, k < j → L k = true := by
  intro k hk
  have hlt := (Array.getElem?_eq_some_iff.1 ho).1
  have hb := cut_suf h hj hlt k hk
  have := masks_bit (L := fun i => L i = true ∨ i = j) ops.toList [] (fun i k _ hb => by simp at hb) (fun i oi hi hLi e he hbe => by
    rw [List.length_nil, Nat.zero_add] at hLi
    rcases hLi with hLi | rfl
    · exact .inl (hL i oi hi hLi e he hbe)
    · rw [Array.getElem?_toList, ho] at hi
      injection hi with hi
      subst hi
      exact .inl (hr e he hbe)) j k (.inr rfl) hb
  rcases this with h | h
  · exact h
  · omega

theorem ready_false {l : Array Bool} (hs : l.size = ops.size) {i : Nat} (h : i < ops.size) : l.getD i true = l.getD i false := by
  simp [Array.getD, hs, h]

theorem any_suf (h : cutB ops.toList m = true) : ∀ (fuel t : Nat) (l : Array Bool) (a : Act) (w : World), m ≤ t → t ≤ ops.size → l.size = ops.size → (∀ j, j < ops.size → l.getD j false = decide (j < t)) → ops.size - t ≤ fuel →
    wpOps P ops Q (List.range' t (ops.size - t)) a w → wpAny P .any ops Q fuel l a w := by
  have hone : ∀ (t : Nat) (l : Array Bool), m ≤ t → l.size = ops.size → (∀ j, j < ops.size → l.getD j false = decide (j < t)) → ∀ i, i ∈ Region.ready .any ops l → i = t := by
    intro t l ht hs hl i hi
    obtain ⟨h1, o, h2, h3⟩ := mem_ready.1 hi
    have hlt := (Array.getElem?_eq_some_iff.1 h2).1
    rw [ready_false hs hlt, hl i hlt] at h1
    have hge : t ≤ i := by simpa using h1
    have hcl : Closed ops (fun j => l.getD j false) := by
      intro j oj hj hLj e he hb
      rw [Array.getElem?_toList] at hj
      have hjl := (Array.getElem?_eq_some_iff.1 hj).1
      have hb' := cut_back h hj e he hb
      simp only [hl j hjl, decide_eq_true_eq] at hLj
      show l.getD e.on false = true
      rw [hl e.on (by omega), decide_eq_true_eq]; omega
    have := suf_ready h hcl (by omega) h2 (fun e he hb => h3 e (by simpa using he) hb)
    rcases Nat.lt_or_eq_of_le hge with hlt' | e
    · have := this t hlt'
      simp only [hl t (by omega), decide_eq_true_eq] at this
      omega
    · exact e.symm
  have hin : ∀ (t : Nat) (l : Array Bool), t < ops.size → l.size = ops.size → (∀ j, j < ops.size → l.getD j false = decide (j < t)) → t ∈ Region.ready .any ops l := by
    intro t l ht hs hl
    rw [mem_ready]
    refine ⟨by rw [ready_false hs ht, hl t ht]; simp, ops[t], by simp [ht], fun e he hb => ?_⟩
    have := cut_back h (j := t) (o := ops[t]) (by simp [ht]) e (by simpa using he) hb
    rw [hl e.on (by omega), decide_eq_true_eq]; exact this
  intro fuel
  induction fuel with
  | zero =>
    intro t l a w hmt htn hs hl hf hw
    have ht : t = ops.size := by omega
    refine ⟨?_, ?_⟩
    · cases hr : Region.ready .any ops l with
      | nil => rfl
      | cons i r =>
        have hi : i ∈ Region.ready .any ops l := by rw [hr]; exact List.mem_cons_self ..
        have := hone t l hmt hs hl i hi
        obtain ⟨_, o, h2, _⟩ := mem_ready.1 hi
        have := (Array.getElem?_eq_some_iff.1 h2).1
        omega
    · rw [ht, Nat.sub_self] at hw
      exact hw
  | succ fuel ih =>
    intro t l a w hmt htn hs hl hf hw
    refine ⟨fun hr => ?_, fun i hi => ?_⟩
    · rcases Nat.lt_or_eq_of_le htn with hlt | e
      · have := hin t l hlt hs hl
        rw [hr] at this
        cases this
      · rw [e, Nat.sub_self] at hw
        exact hw
    · have e := hone t l hmt hs hl i hi
      subst e
      obtain ⟨_, o, h2, _⟩ := mem_ready.1 hi
      have hlt := (Array.getElem?_eq_some_iff.1 h2).1
      rw [show ops.size - i = (ops.size - (i + 1)) + 1 by omega, List.range'_succ, wpOps_cons] at hw
      refine wpOp_mono (fun a w hw => ?_) hw
      refine ih (i + 1) _ a w (by omega) (by omega) (by simpa using hs) (fun j hj => ?_) (by omega) hw
      by_cases hij : j = i
      · subst hij
        simp [hs, hlt]
      · rw [getD_set_ne false (fun e => hij e.symm), hl j hj]
        congr 1
        exact propext ⟨fun h => by omega, fun h => by omega⟩

/-- what is said of the other ways out does not matter where none is taken -/
theorem wp_chQ {o : Oper} {a : Act} {w : World} {K : Act → World → Prop} (hQ : ∀ e a w, Q0 e a w → e = .normal) (h : o.wp P a w K Q0) : o.wp P a w K Q := by
  unfold Oper.wp at h ⊢
  generalize (execOp a.eval o).run P w = res at h ⊢
  cases res with
  | ok x w' =>
    cases x <;> simp only [Oper.upon] at h ⊢ <;> try (exact h.elim)
    case value v => exact h
    case skip => exact h
    case defer d => exact h
    case enter f args =>
      refine h.mono fun e w'' he => ?_
      cases e with
      | returned v => exact he
      | panicked chain => have := hQ _ _ _ he; cases this
      | outgrown => obtain ⟨_, _, he⟩ := he; have := hQ _ _ _ he; cases this
    case row row args => exact h
  | halt x w' =>
    cases x <;> simp only [Oper.upon] at h <;> try (exact h.elim)
    have := hQ _ _ _ h
    cases this

theorem wpOp_pre (h : cutB ops.toList m = true) (hQ : ∀ e a w, Q0 e a w → e = .normal) {i : Nat} (hi : i < m) {a : Act} {w : World} {K : Act → World → Prop} (hw : wpOp P (ops.toList.take m).toArray Q0 i K a w) : wpOp P ops Q i K a w := by
  have hm := cut_le h
  have hlt : i < ops.size := by omega
  have e1 : (ops.toList.take m).toArray[i]? = some ops[i] := by
    simp [List.getElem?_take, hi, hlt]
  have e2 : ops[i]? = some ops[i] := by simp [hlt]
  have hg : Region.wanted ops[i] (yielded (ops.toList.take m).toArray a.tmps) = Region.wanted ops[i] (yielded ops a.tmps) := by
    have hgl : guardLt m ops[i] = true := by
      simp only [cutB, Bool.and_eq_true] at h
      have := h.2.2
      rw [List.all_eq_true] at this
      refine this ops[i] ?_
      rw [List.mem_take_iff_getElem]
      exact ⟨i, by simp; omega, by simp⟩
    unfold Region.wanted
    unfold guardLt at hgl
    cases hx : ops[i].guard with
    | none => rfl
    | some g =>
      rw [hx] at hgl
      simp only [decide_eq_true_eq] at hgl
      simp only
      congr 1
      unfold yielded
      have e3 : (ops.toList.take m).toArray[g.1]? = ops[g.1]? := by
        simp [List.getElem?_take, hgl]
      rw [e3]
  unfold wpOp at hw ⊢
  rw [e1] at hw
  rw [e2]
  simp only [] at hw ⊢
  rw [hg] at hw
  split
  · rename_i hwant
    rw [if_pos hwant] at hw
    rcases hw with hw | ⟨_, _, _, hw⟩
    · exact .inl (wp_chQ hQ hw)
    · have := hQ _ _ _ hw; cases this
  · rename_i hwant
    rw [if_neg hwant] at hw
    exact hw

theorem any_pre (h : cutB ops.toList m = true) (hQ : ∀ e a w, Q0 e a w → e = .normal) (hN : ∀ a w, Q0 .normal a w → wpOps P ops Q (List.range' m (ops.size - m)) a w) : ∀ (fuel : Nat) (lp l : Array Bool) (a : Act) (w : World), lp.size = m → l.size = ops.size → (∀ j, j < m → l.getD j false = lp.getD j false) →
    (∀ j, m ≤ j → l.getD j false = false) → Closed ops (fun j => l.getD j false) → wpAny P .any (ops.toList.take m).toArray Q0 fuel lp a w → wpAny P .any ops Q (fuel + (ops.size - m)) l a w := by
  have hm := cut_le h
  have hps : (ops.toList.take m).toArray.size = m := by simp; omega
  have hat : ∀ i, i < m → (ops.toList.take m).toArray[i]? = ops[i]? := fun i hi => by simp [List.getElem?_take, hi]
  -- all of the first part is done
  have hall : ∀ (lp : Array Bool), lp.size = m → Region.ready .any (ops.toList.take m).toArray lp = [] → ∀ j, j < m → lp.getD j false = true := by
    intro lp hlp hr
    have key : ∀ n j, j < n → j < m → lp.getD j false = true := by
      intro n
      induction n with
      | zero => intro j hj; omega
      | succ n ih =>
        intro j hj hjm
        cases hl : lp.getD j false with
        | true => rfl
        | false =>
          have hmem : j ∈ Region.ready .any (ops.toList.take m).toArray lp := by
            rw [mem_ready]
            refine ⟨by rw [ready_false (ops := (ops.toList.take m).toArray) (by rw [hlp, hps]) (by rw [hps]; exact hjm)]; exact hl, ops[j]'(by omega), by rw [hat j hjm]; simp, fun e he hb => ?_⟩
            have hb' := cut_back h (j := j) (o := ops[j]'(by omega)) (by simp) e (by simpa using he) hb
            exact ih e.on (by omega) (by omega)
          rw [hr] at hmem
          cases hmem
    exact fun j hj => key (j + 1) j (by omega) hj
  have hdone : ∀ (fuel : Nat) (lp l : Array Bool) (a : Act) (w : World), lp.size = m → l.size = ops.size → (∀ j, j < m → l.getD j false = lp.getD j false) → (∀ j, m ≤ j → l.getD j false = false) → ops.size - m ≤ fuel →
      Region.ready .any (ops.toList.take m).toArray lp = [] → Q0 .normal a w → wpAny P .any ops Q fuel l a w := by
    intro fuel lp l a w hlp hs hpre hsuf hf hr hq
    refine any_suf h fuel m l a w (Nat.le_refl _) hm hs (fun j hj => ?_) hf (hN a w hq)
    by_cases hjm : j < m
    · rw [hpre j hjm, hall lp hlp hr j hjm, decide_eq_true hjm]
    · rw [hsuf j (by omega), decide_eq_false hjm]
  intro fuel
  induction fuel with
  | zero =>
    intro lp l a w hlp hs hpre hsuf hcl hw
    rw [Nat.zero_add]
    exact hdone _ lp l a w hlp hs hpre hsuf (Nat.le_refl _) hw.1 hw.2
  | succ fuel ih =>
    intro lp l a w hlp hs hpre hsuf hcl hw
    cases hr : Region.ready .any (ops.toList.take m).toArray lp with
    | nil => exact hdone _ lp l a w hlp hs hpre hsuf (by omega) hr (hw.1 hr)
    | cons i0 r0 =>
      have hi0 : i0 ∈ Region.ready .any (ops.toList.take m).toArray lp := by rw [hr]; exact List.mem_cons_self ..
      have htrans : ∀ i, i < m → (i ∈ Region.ready .any (ops.toList.take m).toArray lp ↔ i ∈ Region.ready .any ops l) := by
        intro i hi
        have hlt : i < ops.size := by omega
        rw [mem_ready, mem_ready, ready_false (ops := (ops.toList.take m).toArray) (by rw [hlp, hps]) (by rw [hps]; exact hi), ready_false hs hlt, hpre i hi, hat i hi]
        refine and_congr_right fun _ => ?_
        constructor
        · rintro ⟨o, ho, he⟩
          refine ⟨o, ho, fun e hee hb => ?_⟩
          have := cut_back h ho e (by simpa using hee) hb
          rw [hpre e.on (by omega)]
          exact he e hee hb
        · rintro ⟨o, ho, he⟩
          refine ⟨o, ho, fun e hee hb => ?_⟩
          have := cut_back h ho e (by simpa using hee) hb
          rw [← hpre e.on (by omega)]
          exact he e hee hb
      have hi0m : i0 < m := by
        obtain ⟨_, o, h2, _⟩ := mem_ready.1 hi0
        have := (Array.getElem?_eq_some_iff.1 h2).1
        omega
      rw [show fuel + 1 + (ops.size - m) = (fuel + (ops.size - m)) + 1 by omega]
      refine ⟨fun hr2 => ?_, fun i hi => ?_⟩
      · have := (htrans i0 hi0m).1 hi0
        rw [hr2] at this
        cases this
      · obtain ⟨g1, o, h2, h3⟩ := mem_ready.1 hi
        have hlt := (Array.getElem?_eq_some_iff.1 h2).1
        rcases Nat.lt_or_ge i m with him | him
        · have hmem := (htrans i him).2 hi
          refine wpOp_mono (fun a w hw => ?_) (wpOp_pre (Q := Q) h hQ him (hw.2 i hmem))
          refine ih (lp.setIfInBounds i true) (l.setIfInBounds i true) a w (by simpa using hlp) (by simpa using hs) (fun j hj => ?_) (fun j hj => ?_) ?_ hw
          · by_cases hij : j = i
            · subst hij
              simp [hs, hlt, hlp, hj]
            · rw [getD_set_ne false (fun e => hij e.symm), getD_set_ne false (fun e => hij e.symm)]
              exact hpre j hj
          · rw [getD_set_ne false (by omega)]
            exact hsuf j hj
          · intro j oj hj hLj e he hb
            have hLj : (l.setIfInBounds i true).getD j false = true := hLj
            show (l.setIfInBounds i true).getD e.on false = true
            have hin : ∀ k, l.getD k false = true → (l.setIfInBounds i true).getD k false = true := fun k hk => by
              by_cases hki : k = i
              · subst hki
                simp [hs, hlt]
              · rw [getD_set_ne false (fun e => hki e.symm)]; exact hk
            by_cases hij : j = i
            · subst hij
              rw [Array.getElem?_toList, h2] at hj
              injection hj with hj
              subst hj
              exact hin _ (h3 e (by simpa using he) hb)
            · rw [getD_set_ne false (fun e => hij e.symm)] at hLj
              exact hin _ (hcl j oj hj hLj e he hb)
        · have := suf_ready h hcl him h2 (fun e he hb => h3 e (by simpa using he) hb) i0 (by omega)
          have hx : l.getD i0 false = true := this
          obtain ⟨g2, _⟩ := mem_ready.1 hi0
          rw [ready_false (ops := (ops.toList.take m).toArray) (by rw [hlp, hps]) (by rw [hps]; exact hi0m), ← hpre i0 hi0m, hx] at g2
          cases g2
end
end Go.Vx
end
