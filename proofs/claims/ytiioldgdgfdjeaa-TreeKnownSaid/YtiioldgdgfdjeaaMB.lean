/-
  Soundness of the verification-condition generator, seventh part: what makes memory and writes it. Conditions: none.
  Own slices of own slices, as values: what is built of own slices, put behind one another, changed at a row. Conditions: none.
  Soundness of the verification-condition generator, eighth part: stores. Conditions: none.
  Soundness of the verification-condition generator, ninth part: len, min, max, append, make. Conditions: none.
-/
import Derived.Test.YtiioldgdgfdjeaaMA
import Derived.Maps.AppendAt
import Derived.Laws.MakeOwn
import Derived.MapKept
import Derived.Laws.BytesString
import Derived.Laws.CopyOwn

section
set_option linter.unusedVariables false
set_option linter.unusedSimpArgs false
namespace Go.Vx
open Go Go.RowKit

/-- what is asked of an operation: it runs, and leaves what the abstract step says -/
def Moves (X : Ctx) (s : S) (a : Act) (w : World) (o : Oper) (v : AV) (u : Upd) : Prop :=
  ∃ nx v' w' β', (execOp a.eval o).run X.P w = .ok nx w' ∧ (nx = .value v' ∨ (nx = .skip ∧ v' = undef)) ∧ Inv X ⟨s.fr, u ++ s.bx⟩ a w' β' ∧ RV w' (MM X (lookB · (u ++ s.bx)) β') β' (lookB · (u ++ s.bx)) v' v

theorem Quiet.moves {X : Ctx} {s : S} {a : Act} {w : World} {β : Nat → Value} {o : Oper} {v : AV} {u : Upd} (h : Inv X s a w β) (hq : Quiet X s a w β o v u) : Moves X s a w o v u := by
  obtain ⟨rfl, v', hrun, hrv⟩ := hq
  exact ⟨_, v', w, β, hrun, .inl rfl, h, hrv⟩

theorem Inv.congr {X : Ctx} {s : S} {a : Act} {w : World} {β : Nat → Value} {fr' : List (Nat × AV)} {bx' : List (Nat × Box)} (h : Inv X s a w β) (hf : ∀ i, look i fr' = look i s.fr) (hb : ∀ i, lookB i bx' = lookB i s.bx) : Inv X ⟨fr', bx'⟩ a w β := by
  have e : (fun i => lookB i bx') = (fun i => lookB i s.bx) := funext hb
  refine ⟨h.df, h.sz, h.keep, h.m0, fun id => ?_, fun i j k => ?_, fun i => ?_, fun id => by rw [hb id]; exact h.pin id⟩
  · show BoxOK X w (Vx.MM X (fun i => lookB i bx') β) β (fun i => lookB i bx') id (lookB id bx')
    rw [e, hb id]; exact h.box id
  · show live (lookB i bx') = true → live (lookB j bx') = true → _
    rw [hb i, hb j]; exact h.inj i j k
  · show RV w (Vx.MM X (fun i => lookB i bx') β) β (fun i => lookB i bx') _ (look i fr')
    rw [e, hf i]; exact h.fr i

/-- what a box is by value, once it is frozen -/
def Frzb (b : Box) (v : Nat) (xs : List (List D)) : Prop := (∃ e, b = .arr e v xs) ∨ ∃ e r rows, b = .nest e v r none rows ∧ xs = rowsD rows
def FrzL (bx : List (Nat × Box)) (u : Upd) : Prop := ∀ p ∈ u, ∃ v xs, p.2 = .frz v xs ∧ Frzb (lookB p.1 bx) v xs

theorem Frzb.live {b : Box} {v : Nat} {xs : List (List D)} (h : Frzb b v xs) : live b = true := by
  rcases h with ⟨e, rfl⟩ | ⟨e, r, rows, rfl, _⟩ <;> rfl
theorem Frzb.one {b : Box} {v v' : Nat} {xs xs' : List (List D)} (h : Frzb b v xs) (h' : Frzb b v' xs') : v = v' ∧ xs = xs' := by
  rcases h with ⟨e, rfl⟩ | ⟨e, r, rows, rfl, rfl⟩ <;> rcases h' with ⟨e', h'⟩ | ⟨e', r', rows', h', hx⟩
  · injection h' with _ h1 h2
    exact ⟨h1, h2⟩
  · cases h'
  · cases h'
  · injection h' with _ h1 _ _ h2
    rw [hx, h2]
    exact ⟨h1, rfl⟩
theorem not_frzb {b : Box} (h : live b = false) (v : Nat) (xs : List (List D)) : ¬ Frzb b v xs := fun hf => by
  rw [hf.live] at h
  cases h

theorem frz_nil (bx : List (Nat × Box)) : FrzL bx [] := fun p hp => by cases hp

theorem lookB_frz {bx : List (Nat × Box)} : ∀ {u : Upd}, FrzL bx u → ∀ {id v : Nat} {xs : List (List D)}, Frzb (lookB id bx) v xs → lookB id (u ++ bx) = lookB id bx ∨ lookB id (u ++ bx) = .frz v xs
  | [], _, _, _, _, h => .inl rfl
  | p :: r, hu, id, v, xs, h => by
    rw [List.cons_append, lookB_cons]
    by_cases hi : id = p.1
    · obtain ⟨v', xs', h1, h2⟩ := hu p (List.mem_cons_self ..)
      rw [← hi] at h2
      obtain ⟨rfl, rfl⟩ := h.one h2
      rw [if_pos hi, h1]
      exact .inr rfl
    · rw [if_neg hi]
      exact lookB_frz (fun q hq => hu q (List.mem_cons_of_mem _ hq)) h

theorem lookB_frz_other {bx : List (Nat × Box)} : ∀ {u : Upd}, FrzL bx u → ∀ {id : Nat}, live (lookB id bx) = false → lookB id (u ++ bx) = lookB id bx
  | [], _, _, _ => rfl
  | p :: r, hu, id, h => by
    rw [List.cons_append, lookB_cons]
    by_cases hi : id = p.1
    · obtain ⟨v', xs', _, h2⟩ := hu p (List.mem_cons_self ..)
      rw [← hi] at h2
      exact (not_frzb h _ _ h2).elim
    · rw [if_neg hi]
      exact lookB_frz_other (fun q hq => hu q (List.mem_cons_of_mem _ hq)) h

theorem lookB_notIn {bx : List (Nat × Box)} {id : Nat} : ∀ {u : Upd}, notIn id u = true → lookB id (u ++ bx) = lookB id bx
  | [], _ => rfl
  | p :: r, h => by
    simp only [notIn] at h
    cases hb : (id == p.1) <;> rw [hb] at h
    · rw [List.cons_append]
      simp only [lookB, hb, cond_false]
      exact lookB_notIn h
    · cases h

theorem Inv.freezeL {X : Ctx} {s : S} {a : Act} {w : World} {β : Nat → Value} (h : Inv X s a w β) : ∀ {u : Upd}, FrzL s.bx u → Inv X ⟨s.fr, u ++ s.bx⟩ a w β
  | [], _ => h
  | p :: r, hu => by
    have hr : FrzL s.bx r := fun q hq => hu q (List.mem_cons_of_mem _ hq)
    have ih := h.freezeL hr
    obtain ⟨v, xs, h1, h2⟩ := hu p (List.mem_cons_self ..)
    have hp : p = (p.1, .frz v xs) := by rw [← h1]
    rcases lookB_frz hr h2 with hl | hl
    · rw [List.cons_append, hp]
      rcases h2 with ⟨e, h2⟩ | ⟨e, rv, rows, h2, rfl⟩
      · exact ih.freeze (s := ⟨s.fr, r ++ s.bx⟩) (hl.trans h2)
      · exact ih.freezeN (s := ⟨s.fr, r ++ s.bx⟩) (hl.trans h2)
    · refine ih.congr (fun _ => rfl) fun i => ?_
      rw [List.cons_append, lookB_cons]
      by_cases hi : i = p.1
      · rw [if_pos hi, hi, hl, h1]
      · rw [if_neg hi]

theorem not_frozen {bx : List (Nat × Box)} {id : Nat} : ∀ {u : Upd}, (∀ p ∈ u, p.1 ≠ id) → lookB id (u ++ bx) = lookB id bx
  | [], _ => rfl
  | p :: r, h => by
    rw [List.cons_append, lookB_cons, if_neg fun e => h p (List.mem_cons_self ..) e.symm]
    exact not_frozen fun q hq => h q (List.mem_cons_of_mem _ hq)
theorem frozen_in {bx : List (Nat × Box)} {id : Nat} : ∀ {u : Upd}, FrzL bx u → ∀ {p : Nat × Box}, p ∈ u → p.1 = id → ¬ live (lookB id (u ++ bx)) = true
  | [], _, p, hp, _ => by cases hp
  | q :: r, hu, p, hp, he => by
    rw [List.cons_append, lookB_cons]
    by_cases hi : id = q.1
    · rw [if_pos hi]
      obtain ⟨v, xs, h1, _⟩ := hu q (List.mem_cons_self ..)
      rw [h1]
      intro hh; cases hh
    · rw [if_neg hi]
      rcases List.mem_cons.1 hp with rfl | hp
      · exact (hi he.symm).elim
      · exact frozen_in (fun q hq => hu q (List.mem_cons_of_mem _ hq)) hp he

theorem FrzL.append {bx : List (Nat × Box)} {u u' : Upd} (h : FrzL bx u) (h' : FrzL bx u') : FrzL bx (u ++ u') := fun p hp => by
  rcases List.mem_append.1 hp with hp | hp
  · exact h p hp
  · exact h' p hp

/-- frozen or not, it is by value the same -/
theorem frz_rp {X : Ctx} {s : S} {w : World} {β : Nat → Value} {u : Upd} (hu : FrzL s.bx u) {v : Value} {d : D} (hr : Rp w (MM X (lookB · s.bx) β) v d) : Rp w (MM X (lookB · (u ++ s.bx)) β) v d := by
  refine hr.keep fun k hk hM => ⟨rfl, ?_⟩
  rintro (h0 | ⟨id, hl, hb⟩)
  · exact hM (.inl h0)
  · refine hM (.inr ⟨id, ?_, hb⟩)
    cases hid : live (lookB id s.bx) with
    | true => rfl
    | false =>
      have hl' : live (lookB id (u ++ s.bx)) = true := hl
      rw [lookB_frz_other hu hid, hid] at hl'; cases hl'

/-- cells by value -/
def CellsAre (w : World) (M : Nat → Prop) (v : Value) (ds : List D) : Prop := v.cells.size = ds.length ∧ ∀ j d, ds[j]? = some d → Rp w M (v.cells.getD j undef) d

theorem cells_one {v : Value} (h : v.oneCell' = true) : v.cells = #[v] := by
  cases v <;> first | rfl | cases h

theorem frzL_nest {bx : List (Nat × Box)} {id e v r : Nat} {rows : List (List (List D))} (hl : lookB id bx = .nest e v r none rows) : FrzL bx [(id, .frz v (rowsD rows))] := by
  intro p hp
  simp only [List.mem_singleton] at hp
  subst hp
  exact ⟨v, _, rfl, .inr ⟨e, r, rows, hl, rfl⟩⟩
theorem frzL_of_toD {bx : List (Nat × Box)} {av : AV} {d : D} {u : Upd} (hd : toD bx av = some (d, u)) : FrzL bx u := by
  unfold toD at hd
  split at hd
  · simp only [Option.some.injEq, Prod.mk.injEq] at hd
    rw [← hd.2]; exact frz_nil _
  · simp only [Option.some.injEq, Prod.mk.injEq] at hd
    rw [← hd.2]; exact frz_nil _
  · rename_i id ver
    unfold toDB at hd
    split at hd
    · rename_i e v xs hl
      cases hc : (v == ver) <;> rw [hc] at hd
      · cases hd
      · simp only [cond_true, Option.some.injEq, Prod.mk.injEq] at hd
        rw [← hd.2]
        intro p hp
        simp only [List.mem_singleton] at hp
        subst hp
        exact ⟨v, xs, rfl, .inl ⟨e, hl⟩⟩
    · rename_i v xs hl
      cases hc : (v == ver) <;> rw [hc] at hd
      · cases hd
      · simp only [cond_true, Option.some.injEq, Prod.mk.injEq] at hd
        rw [← hd.2]; exact frz_nil _
    · rename_i e v r rows hl
      cases hc : (v == ver) <;> rw [hc] at hd
      · cases hd
      · simp only [cond_true, Option.some.injEq, Prod.mk.injEq] at hd
        rw [← hd.2]; exact frzL_nest hl
    · cases hd
  · rename_i id rv p
    unfold toDF at hd
    split at hd
    · rename_i e v r rows hl
      cases hc : (r == rv) <;> rw [hc] at hd
      · cases hd
      · simp only [cond_true, Option.some.injEq, Prod.mk.injEq] at hd
        rw [← hd.2]; exact frzL_nest hl
    · cases hd
  · cases hd

theorem toD_sound {X : Ctx} {s : S} {a : Act} {w : World} {β : Nat → Value} {av : AV} {d : D} {u : Upd} {v : Value} (h : Inv X s a w β) (hv : RV w (MM X (lookB · s.bx) β) β (lookB · s.bx) v av) (hd : toD s.bx av = some (d, u)) :
    FrzL s.bx u ∧ Rp w (MM X (lookB · (u ++ s.bx)) β) v d := by
  unfold toD at hd
  split at hd
  · simp only [Option.some.injEq, Prod.mk.injEq] at hd
    obtain ⟨rfl, rfl⟩ := hd
    have := hv.to_c
    cases this
    exact ⟨frz_nil _, Rp.nil _ _⟩
  · simp only [Option.some.injEq, Prod.mk.injEq] at hd
    obtain ⟨rfl, rfl⟩ := hd
    exact ⟨frz_nil _, hv.to_c⟩
  · rename_i id ver
    cases hv with
    | osl _ _ _ h1 hok =>
      have hbox := h.box id
      cases hl : lookB id s.bx <;> rw [hl] at hd hok hbox <;> simp only [toDB] at hd <;> try (cases hd; done)
      case arr e v' xs =>
        cases hvv : (v' == ver) <;> rw [hvv] at hd
        · cases hd
        · simp only [cond_true, Option.some.injEq, Prod.mk.injEq] at hd
          obtain ⟨rfl, rfl⟩ := hd
          have hve : v' = ver := by simpa using hvv
          have hf : FrzL s.bx [(id, .frz v' xs)] := by
            intro p hp
            simp only [List.mem_singleton] at hp
            subst hp
            exact ⟨v', xs, rfl, .inl ⟨e, hl⟩⟩
          have hout : outerV (β id) = β id := by
            obtain ⟨te, flat, _, _, _, ho, _⟩ := hbox
            exact outerV_own ho
          have := (h.freezeL hf).box id
          have e' : lookB id ([(id, Box.frz v' xs)] ++ s.bx) = .frz v' xs := by simp [lookB_cons]
          simp only [e'] at this
          refine ⟨hf, ?_⟩
          rw [hok.2 hve.symm, ← hout]
          exact this
      case frz v' xs =>
        cases hvv : (v' == ver) <;> rw [hvv] at hd
        · cases hd
        · simp only [cond_true, Option.some.injEq, Prod.mk.injEq] at hd
          obtain ⟨rfl, rfl⟩ := hd
          have hve : v' = ver := by simpa using hvv
          refine ⟨frz_nil _, ?_⟩
          rw [hok.2 hve.symm]
          exact hbox
      case nest e v' r dt rows =>
        cases dt with
        | some _ => cases hd
        | none =>
          simp only [] at hd
          cases hvv : (v' == ver) <;> rw [hvv] at hd
          · cases hd
          · simp only [cond_true, Option.some.injEq, Prod.mk.injEq] at hd
            obtain ⟨rfl, rfl⟩ := hd
            have hve : v' = ver := by simpa using hvv
            have hf := frzL_nest hl
            have := (h.freezeL hf).box id
            have e' : lookB id ([(id, Box.frz v' (rowsD rows))] ++ s.bx) = .frz v' (rowsD rows) := by simp [lookB_cons]
            simp only [e'] at this
            refine ⟨hf, ?_⟩
            rw [hok.2 hve.symm]
            exact this
  · rename_i id rv p
    have hh := hv
    generalize hav : AV.fsl id rv p = av at hh
    cases hh <;> try (cases hav; done)
    rename_i id' rv' p' h1 hok
    injection hav with e1 e2 e3
    subst e1; subst e2; subst e3
    have hbox := h.box id
    cases hl : lookB id s.bx <;> rw [hl] at hd hok hbox <;> simp only [toDF] at hd <;> try (cases hd; done)
    rename_i e v' r dt rows
    cases dt with
    | some _ => cases hd
    | none =>
      simp only [] at hd
      cases hvv : (r == rv) <;> rw [hvv] at hd
      · cases hd
      · simp only [cond_true, Option.some.injEq, Prod.mk.injEq] at hd
        obtain ⟨rfl, rfl⟩ := hd
        have hve : r = rv := by simpa using hvv
        have hf := frzL_nest hl
        obtain ⟨hp, hval⟩ := hok.2 hve.symm
        obtain ⟨te, e', te', vs, cs, flat, hn⟩ := hbox
        refine ⟨hf, ?_⟩
        rw [hval, hn.inner_val p]
        obtain ⟨g1, g2⟩ := mm_frz (ver := v') (xs := rowsD rows) h (id := id) (by rw [hl]; rfl)
        exact hn.rowRp g1 g2 (get_getD hp)
  · cases hd

theorem toDL_sound {X : Ctx} {s : S} {a : Act} {w : World} {β : Nat → Value} (h : Inv X s a w β) : ∀ (vs : List AV) (ds : List D) (u : Upd), toDL s.bx vs = some (ds, u) → FrzL s.bx u ∧ vs.length = ds.length ∧
    ∀ (v : Value) (j : Nat) av d, vs[j]? = some av → ds[j]? = some d → RV w (MM X (lookB · s.bx) β) β (lookB · s.bx) v av → ∃ u', FrzL s.bx u' ∧ (∀ p ∈ u', p ∈ u) ∧ Rp w (MM X (lookB · (u' ++ s.bx)) β) v d
  | [], ds, u, hd => by
    simp only [toDL, Option.some.injEq, Prod.mk.injEq] at hd
    obtain ⟨rfl, rfl⟩ := hd
    exact ⟨frz_nil _, rfl, fun v j av d hj => by simp at hj⟩
  | av :: vs, ds, u, hd => by
    simp only [toDL] at hd
    cases h1 : toD s.bx av with
    | none => rw [h1] at hd; cases hd
    | some p =>
      cases h2 : toDL s.bx vs with
      | none => rw [h1, h2] at hd; cases hd
      | some q =>
        obtain ⟨d, u1⟩ := p
        obtain ⟨ds', u2⟩ := q
        rw [h1, h2] at hd
        simp only [and2D, Option.some.injEq, Prod.mk.injEq] at hd
        obtain ⟨rfl, rfl⟩ := hd
        obtain ⟨g1, g2, g3⟩ := toDL_sound h vs ds' u2 h2
        have hf1 : FrzL s.bx u1 := frzL_of_toD h1
        refine ⟨hf1.append g1, by simp [g2], fun v j av' d' hj hd' hv => ?_⟩
        cases j with
        | zero =>
          simp only [List.getElem?_cons_zero, Option.some.injEq] at hj hd'
          subst hj; subst hd'
          exact ⟨u1, hf1, fun p hp => List.mem_append_left _ hp, (toD_sound h hv h1).2⟩
        | succ j =>
          obtain ⟨u', k1, k2, k3⟩ := g3 v j av' d' (by simpa using hj) (by simpa using hd') hv
          exact ⟨u', k1, fun p hp => List.mem_append_right _ (k2 p hp), k3⟩

theorem toDs_sound {X : Ctx} {s : S} {a : Act} {w : World} {β : Nat → Value} {av : AV} {ds : List D} {u : Upd} {v : Value} (h : Inv X s a w β) (hv : RV w (MM X (lookB · s.bx) β) β (lookB · s.bx) v av) (hd : toDs s.bx av = some (ds, u)) :
    FrzL s.bx u ∧ CellsAre w (MM X (lookB · (u ++ s.bx)) β) v ds := by
  have hone : ∀ av, RV w (MM X (lookB · s.bx) β) β (lookB · s.bx) v av → one1 (toD s.bx av) = some (ds, u) → FrzL s.bx u ∧ CellsAre w (MM X (lookB · (u ++ s.bx)) β) v ds := by
    intro av hv hd
    cases ht : toD s.bx av with
    | none => rw [ht] at hd; cases hd
    | some p =>
      obtain ⟨d, u'⟩ := p
      rw [ht] at hd
      simp only [one1, Option.some.injEq, Prod.mk.injEq] at hd
      obtain ⟨rfl, rfl⟩ := hd
      obtain ⟨h1, h2⟩ := toD_sound h hv ht
      refine ⟨h1, ?_⟩
      unfold CellsAre
      rw [cells_one h2.one]
      refine ⟨rfl, fun j d' hj => ?_⟩
      cases j with
      | zero =>
        simp only [List.getElem?_cons_zero, Option.some.injEq] at hj
        subst hj; exact h2
      | succ j => simp at hj
  unfold toDs at hd
  split at hd
  · simp only [Option.some.injEq, Prod.mk.injEq] at hd
    obtain ⟨rfl, rfl⟩ := hd
    cases hv with
    | ag cs _ hs hr => exact ⟨frz_nil _, hs, hr⟩
  · exact hone _ hv hd
  · exact hone _ hv hd
  · exact hone _ hv hd
  · obtain ⟨g1, g2, g3⟩ := toDL_sound h _ _ _ hd
    cases hv with
    | agv cs _ hs _ hr =>
      refine ⟨g1, by show cs.size = ds.length; rw [hs, g2], fun j d hj => ?_⟩
      have hlt : j < ds.length := (List.getElem?_eq_some_iff.1 hj).1
      have hav := List.getElem?_eq_getElem (show j < _ by rw [g2]; exact hlt)
      obtain ⟨u', k1, k2, k3⟩ := g3 _ j _ d hav hj (hr j _ hav)
      exact k3.keep fun k hk hn => ⟨rfl, fun hm => hn (by
        rcases hm with hm | ⟨id, hl, hb⟩
        · exact .inl hm
        · refine .inr ⟨id, ?_, hb⟩
          cases hl0 : live (lookB id s.bx) with
          | false =>
            have hl' : live (lookB id (u ++ s.bx)) = true := hl
            rw [lookB_frz_other g1 hl0, hl0] at hl'; cases hl'
          | true =>
            show live (lookB id (u' ++ s.bx)) = true
            rw [not_frozen (fun p hp e => (frozen_in g1 (k2 p hp) e) hl)]
            exact hl0)⟩
  · cases hd

section
variable {X : Ctx} {s : S} {a : Act} {w : World} {β : Nat → Value} {o : Oper} {d : Nat} {bb : Box} {v : AV} {u : Upd}

/-- a new block of cells -/
theorem new_cells (h : Inv X s a w β) {cs : List AV} {conc : Array Value} (T : Nat) (hd : lookB d s.bx = .dead) (hs : conc.size = cs.length)
    (hr : ∀ j av, cs[j]? = some av → cellT T av ∧ RV w (MM X (lookB · s.bx) β) β (lookB · s.bx) (conc.getD j undef) av) :
    Inv X ⟨s.fr, (d, .cells cs) :: s.bx⟩ a (w.alloc (.cells conc T)) (upd1 β d (.pointer (some ⟨w.heap.size, 0, none⟩))) := by
  have hc : Changed X s w β d (.cells cs) (.pointer (some ⟨w.heap.size, 0, none⟩)) (w.alloc (.cells conc T)) := by
    refine ⟨rfl, rfl, rfl, by simp, fun k hk _ => Below.heap_alloc w _ k hk, fun k _ hk => ?_, by rw [hd]; trivial⟩
    injection hk with hk
    subst hk
    exact ⟨.inl (Nat.le_refl _), .inl h.keep.size⟩
  refine h.upd hc ⟨w.heap.size, T, conc, upd1_same _ _ _, .inl h.keep.size, heap_alloc_new w _, hs, fun j av hj => ⟨(hr j av hj).1, ?_⟩⟩
  exact (hr j av hj).2.keep hc.size hc.kept hc.turned

theorem rv_bp (g : Nat) (cs : List AV) (w : World) : RV w (MM X (lookB · ((d, .cells cs) :: s.bx)) (upd1 β d (.pointer (some ⟨g, 0, none⟩)))) (upd1 β d (.pointer (some ⟨g, 0, none⟩))) (lookB · ((d, .cells cs) :: s.bx)) (.pointer (some ⟨g, 0, none⟩)) (.bp d 0) :=
  .bp d 0 g cs (by simp [lookB_cons]) (upd1_same _ _ _)

theorem dead_of {b : Box} {P : Program} {E : Env} {x : R} (hg : Gets P E d bb (match b with | .dead => x | _ => .bad) v u) : b = .dead ∧ Gets P E d bb x v u := by
  cases b <;> first | exact ⟨rfl, hg⟩ | exact hg.elim

theorem zcell_ok {M : Nat → Prop} {lk : Nat → Box} (t : Nat) {zv : Value} (h1 : zv.oneCell' = true) : cellT t (zcell t zv) ∧ RV w M β lk zv (zcell t zv) := by
  unfold zcell
  cases ht : t == 70 with
  | false => exact ⟨rfl, rv_sc h1⟩
  | true =>
    have ht : t = 70 := by simpa using ht
    subst ht
    show cellT 70 (zp70 zv) ∧ RV w M β lk zv (zp70 zv)
    unfold zp70
    split
    · exact ⟨rfl, .zp 70⟩
    · exact ⟨rfl, rv_sc h1⟩
theorem m_alloc (h : Inv X s a w β) (hE : EnvOK X.P X.E) {t : Nat} (ho : o.op = .alloc t) (hg : Gets X.P X.E d bb (allocAV t d (lookB d s.bx) (X.E t)) v u) : Moves X s a w o v u := by
  unfold allocAV at hg
  split at hg
  · rename_i ti hT
    have hty := hE t ti hT
    unfold newB at hg
    obtain ⟨hd, hg⟩ := dead_of hg
    obtain ⟨rfl, rfl⟩ := hg
    obtain ⟨z, hz, hzc⟩ := hty.zero_run w
    refine ⟨_, .pointer (some ⟨w.heap.size, 0, none⟩), w.alloc (.cells z.cells t), _, ?_, .inl rfl, new_cells h t hd ?_ (fun j av hj => ?_), rv_bp _ _ _⟩
    · simp [execOp, ho, Instr.alloc, hz, newVar, newRow]
    · rw [hzc]; simp
    · rw [List.getElem?_map] at hj
      cases hzj : ti.zero[j]? with
      | none => rw [hzj] at hj; cases hj
      | some zv =>
        rw [hzj] at hj
        simp only [Option.map_some, Option.some.injEq] at hj
        subst hj
        have : z.cells.getD j undef = zv := by
          rw [hzc]
          have hlt := (List.getElem?_eq_some_iff.1 hzj).1
          have e : ti.zero[j] = zv := by simpa [List.getElem?_eq_getElem hlt] using hzj
          simp [Array.getD, hlt, e]
        rw [this]
        exact zcell_ok t (hty.zero.2 zv (List.mem_of_getElem? hzj))
  · exact hg.elim

theorem cells_rv {vx : Value} {x : AV} {M : Nat → Prop} {lk : Nat → Box} (hx : RV w M β lk vx x) (hok : okCells x = true) :
    vx.cells.size = (cellsOf x).length ∧ (∀ c ∈ vx.cells.toList, c.oneCell' = true) ∧ ∀ j av, (cellsOf x)[j]? = some av → cellAV av = true ∧ RV w M β lk (vx.cells.getD j undef) av := by
  have hone : ∀ x, RV w M β lk vx x → cellAV x = true → cellsOf x = [x] → vx.cells.size = (cellsOf x).length ∧ (∀ c ∈ vx.cells.toList, c.oneCell' = true) ∧ ∀ j av, (cellsOf x)[j]? = some av → cellAV av = true ∧ RV w M β lk (vx.cells.getD j undef) av := by
    intro x hx hc he
    have h1 := hx.oneCell hc
    rw [cells_one h1, he]
    refine ⟨rfl, by simpa using h1, fun j av hj => ?_⟩
    cases j with
    | zero =>
      simp only [List.getElem?_cons_zero, Option.some.injEq] at hj
      subst hj; exact ⟨hc, hx⟩
    | succ j => simp at hj
  cases x <;> try (exact hone _ hx hok rfl)
  case agv vs =>
    cases hx with
    | agv cs _ hs h1 hr =>
      refine ⟨hs, fun c hc => ?_, fun j av hj => ⟨cellsTop_at hok j av hj, hr j av hj⟩⟩
      obtain ⟨j, hj⟩ := List.getElem?_of_mem hc
      have hlt := (List.getElem?_eq_some_iff.1 hj).1
      simp only [Value.cells, Array.length_toList] at hlt
      have hav := List.getElem?_eq_getElem (show j < vs.length by omega)
      have := h1 j _ hav
      have e : cs.getD j undef = c := by
        simp only [Value.cells, Array.getElem?_toList] at hj
        simp [Array.getD_eq_getD_getElem?, hj]
      rw [e] at this; exact this
  case ag ds =>
    cases hx with
    | ag cs _ hs hr =>
      refine ⟨by simpa [cellsOf, Value.cells] using hs, fun c hc => ?_, fun j av hj => ?_⟩
      · obtain ⟨j, hj⟩ := List.getElem?_of_mem hc
        have hlt := (List.getElem?_eq_some_iff.1 hj).1
        simp only [Value.cells, Array.length_toList] at hlt
        have hd : ds[j]? = some (ds.getD j (.sc undef)) := one_getD (by omega)
        have := (hr j _ hd).one
        have e : cs.getD j undef = c := by
          simp only [Value.cells, Array.getElem?_toList] at hj
          simp [Array.getD_eq_getD_getElem?, hj]
        rw [e] at this; exact this
      · simp only [cellsOf, List.getElem?_map] at hj
        cases hd : ds[j]? with
        | none => rw [hd] at hj; cases hj
        | some dd =>
          rw [hd] at hj
          simp only [Option.map_some, Option.some.injEq] at hj
          subst hj
          exact ⟨rfl, .c _ _ (hr j dd hd)⟩

theorem m_box (h : Inv X s a w β) {t : Nat} {x : Operand} (ho : o.op = .box t x) (hg : Gets X.P X.E d bb (boxAV d (lookB d s.bx) (ev s.fr x)) v u) : Moves X s a w o v u := by
  unfold boxAV at hg
  obtain ⟨hok, hg⟩ := cond_val hg
  unfold newB at hg
  obtain ⟨hd, hg⟩ := dead_of hg
  obtain ⟨rfl, rfl⟩ := hg
  obtain ⟨h1, _, h2⟩ := cells_rv (h.ev x) hok
  refine ⟨_, .pointer (some ⟨w.heap.size, 0, none⟩), w.alloc (.cells (a.eval x).cells t), _, ?_, .inl rfl, new_cells h t hd h1 (fun j av hj => ⟨cellT_of (h2 j av hj).1, (h2 j av hj).2⟩), rv_bp _ _ _⟩
  simp [execOp, ho, Instr.box, newVar, newRow]

end
end Go.Vx
end

section
set_option linter.unusedVariables false
set_option linter.unusedSimpArgs false
namespace Go.Vx
open Go Go.RowKit

/-- v0 is an own slice of the own slices V, which hold rows -/
structure NV (X : Ctx) (w : World) (M : Nat → Prop) (e e' : Nat) (te' : TI) (v0 : Value) (V : List Value) (flat : Nat → List Value) (rows : List (List (List D))) : Prop where
  len : ∀ r ∈ rows, ∀ x ∈ r, x.length = te'.size
  vlen : V.length = rows.length
  outer : w.ownsRow 0 e 1 v0 rows.length V
  row : ∀ (p : Nat) r, rows[p]? = some r → w.ownsRow 0 e' te'.size (V.getD p undef) r.length (flat p)
  at_ : ∀ (p : Nat) r, rows[p]? = some r → ∀ (i : Nat) x (j : Nat) d, r[i]? = some x → x[j]? = some d → Rp w M ((flat p).getD (i * te'.size + j) undef) d
  apartO : ∀ p k, blk v0 = some k → blk (V.getD p undef) ≠ some k
  apart : ∀ p q k, blk (V.getD p undef) = some k → blk (V.getD q undef) = some k → p = q

theorem getD_cons_arr (v0 : Value) (V : List Value) (j : Nat) : (v0 :: V).toArray.getD j undef = (v0 :: V).getD j undef := by
  simp [Array.getD_eq_getD_getElem?, List.getD_eq_getElem?_getD]
theorem blk_tuple {v0 : Value} {V : List Value} {k : Nat} : Blk (.tuple (v0 :: V).toArray) k ↔ blk v0 = some k ∨ ∃ p, blk (V.getD p undef) = some k := by
  constructor
  · rintro ⟨j, hj⟩
    rw [getD_cons_arr] at hj
    cases j with
    | zero => exact .inl hj
    | succ p => exact .inr ⟨p, hj⟩
  · rintro (h | ⟨p, h⟩)
    · exact ⟨0, by rw [getD_cons_arr]; exact h⟩
    · exact ⟨p + 1, by rw [getD_cons_arr]; exact h⟩

theorem NV.nest {X : Ctx} {w : World} {M : Nat → Prop} {e : Nat} {te : TI} {e' : Nat} {te' : TI} {v0 : Value} {V : List Value} {flat : Nat → List Value} {rows : List (List (List D))} (h : NV X w M e e' te' v0 V flat rows)
    (ty : X.E e = some te) (one : te.size = 1) (kind : te.kind = .slice e') (ty' : X.E e' = some te') (pos : 0 < te'.size) (hown : ∀ k, Blk (.tuple (v0 :: V).toArray) k → X.own k) :
    NestOK X w M e te e' te' (.tuple (v0 :: V).toArray) (v0 :: V).toArray V flat none rows where
  ty := ty
  one := one
  kind := kind
  ty' := ty'
  pos := pos
  len := h.len
  val := rfl
  size := by simp [h.vlen]
  outer := h.outer
  row := fun p r hp => by rw [getD_cons_arr]; exact h.row p r hp
  at_ := h.at_
  cell := fun p hp _ => by rw [getD_cons_arr]; rfl
  apart := fun i j k hi hj => by
    rw [getD_cons_arr] at hi hj
    cases i with
    | zero =>
      cases j with
      | zero => rfl
      | succ q => exact (h.apartO q k hi hj).elim
    | succ p =>
      cases j with
      | zero => exact (h.apartO p k hj hi).elim
      | succ q => rw [h.apart p q k hi hj]
  own := hown

theorem NestOK.nv {X : Ctx} {w : World} {M : Nat → Prop} {e : Nat} {te : TI} {e' : Nat} {te' : TI} {b : Value} {vs : Array Value} {cs : List Value} {flat : Nat → List Value} {rows : List (List (List D))} (h : NestOK X w M e te e' te' b vs cs flat none rows) :
    ∃ v0 V, b = .tuple (v0 :: V).toArray ∧ NV X w M e e' te' v0 V flat rows := by
  have hsz := h.size
  obtain ⟨l, rfl⟩ : ∃ l : List Value, vs = l.toArray := ⟨vs.toList, by simp⟩
  cases l with
  | nil => simp at hsz
  | cons v0 V =>
    refine ⟨v0, V, h.val, ?_⟩
    have hcs : cs = V := by
      have h1 : cs.length = rows.length * 1 := h.outer.1
      have h2 : V.length = rows.length := by simpa using hsz
      apply List.ext_getElem? 
      intro i
      by_cases hi : i < rows.length
      · have := h.cell i hi (by simp)
        rw [getD_cons_arr] at this
        have h3 : cs.getD i undef = V.getD i undef := this
        rw [List.getD_eq_getElem?_getD, List.getD_eq_getElem?_getD, List.getElem?_eq_getElem (show i < cs.length by omega), List.getElem?_eq_getElem (show i < V.length by omega)] at h3
        rw [List.getElem?_eq_getElem (show i < cs.length by omega), List.getElem?_eq_getElem (show i < V.length by omega)]
        simpa using h3
      · rw [List.getElem?_eq_none (by omega), List.getElem?_eq_none (by omega)]
    subst hcs
    refine ⟨h.len, by simpa using hsz, by have := h.outer; rwa [getD_cons_arr] at this, fun p r hp => ?_, h.at_, fun p k h1 h2 => ?_, fun p q k h1 h2 => ?_⟩
    · have := h.row p r hp
      rwa [getD_cons_arr] at this
    · have := h.apart 0 (p + 1) k (by rw [getD_cons_arr]; exact h1) (by rw [getD_cons_arr]; exact h2)
      omega
    · have := h.apart (p + 1) (q + 1) k (by rw [getD_cons_arr]; exact h1) (by rw [getD_cons_arr]; exact h2)
      omega

theorem getD_set {V : List Value} {i : Nat} {vx : Value} (hi : i < V.length) (q : Nat) : (V.set i vx).getD q undef = if q = i then vx else V.getD q undef := by
  rw [List.getD_eq_getElem?_getD, List.getElem?_set]
  by_cases hq : i = q
  · subst hq; simp [hi]
  · rw [if_neg hq, if_neg (fun e => hq e.symm), List.getD_eq_getElem?_getD]
theorem set_at {rows : List (List (List D))} {i : Nat} {ys : List (List D)} (hi : i < rows.length) {q : Nat} {r : List (List D)} (hq : (rows.set i ys)[q]? = some r) : (q = i ∧ r = ys) ∨ (q ≠ i ∧ rows[q]? = some r) := by
  rw [List.getElem?_set] at hq
  by_cases hqp : i = q
  · subst hqp
    rw [if_pos rfl, if_pos hi] at hq
    injection hq with hq
    exact .inl ⟨rfl, hq.symm⟩
  · rw [if_neg hqp] at hq
    exact .inr ⟨fun e => hqp e.symm, hq⟩

theorem NV.set {X : Ctx} {w w' : World} {M M' : Nat → Prop} {e e' : Nat} {te' : TI} {v0 : Value} {V : List Value} {flat : Nat → List Value} {rows : List (List (List D))} (h : NV X w M e e' te' v0 V flat rows) {i : Nat} (hi : i < rows.length)
    (hk : Kept w M w' M') {ys : List (List D)} {fl : List Value} {vx : Value} (hlen : ∀ x ∈ ys, x.length = te'.size) (hout : w'.ownsRow 0 e 1 v0 rows.length (V.set i vx))
    (hsame : ∀ q k, q ≠ i → blk (V.getD q undef) = some k → w'.heap[k]? = w.heap[k]?) (hrow : w'.ownsRow 0 e' te'.size vx ys.length fl)
    (hat : ∀ i x j d, ys[i]? = some x → x[j]? = some d → Rp w' M' (fl.getD (i * te'.size + j) undef) d) (ha0 : ∀ k, blk v0 = some k → blk vx ≠ some k) (ha : ∀ q k, q ≠ i → blk (V.getD q undef) = some k → blk vx ≠ some k) :
    NV X w' M' e e' te' v0 (V.set i vx) (fun q => if q = i then fl else flat q) (rows.set i ys) := by
  have hiV : i < V.length := by rw [h.vlen]; exact hi
  refine ⟨fun r hr => ?_, by simp [h.vlen], by rw [List.length_set]; exact hout, fun p r hp => ?_, fun p r hp i' x j d hx hd => ?_, fun p k h0 => ?_, fun p q k hp hq => ?_⟩
  · obtain ⟨q, hq⟩ := List.getElem?_of_mem hr
    rcases set_at hi hq with ⟨_, rfl⟩ | ⟨_, h3⟩
    · exact hlen
    · exact h.len r (List.mem_of_getElem? h3)
  · rw [getD_set hiV]
    rcases set_at hi hp with ⟨rfl, rfl⟩ | ⟨hne, h3⟩
    · rw [if_pos rfl]; simp only [if_true]; exact hrow
    · rw [if_neg hne]; simp only [if_neg hne]
      exact ownsRow_heap (h.row p r h3) fun k hk => hsame p k hne hk
  · rcases set_at hi hp with ⟨rfl, rfl⟩ | ⟨hne, h3⟩
    · simp only [if_true]; exact hat i' x j d hx hd
    · simp only [if_neg hne]
      exact (h.at_ p r h3 i' x j d hx hd).keep hk
  · rw [getD_set hiV]
    by_cases hpi : p = i
    · rw [if_pos hpi]; exact ha0 k h0
    · rw [if_neg hpi]; exact h.apartO p k h0
  · rw [getD_set hiV] at hp hq
    by_cases h1 : p = i <;> by_cases h2 : q = i
    · rw [h1, h2]
    · rw [if_pos h1] at hp
      rw [if_neg h2] at hq
      exact (ha q k h2 hq hp).elim
    · rw [if_neg h1] at hp
      rw [if_pos h2] at hq
      exact (ha p k h1 hp hq).elim
    · rw [if_neg h1] at hp
      rw [if_neg h2] at hq
      exact h.apart p q k hp hq

theorem ownsRow_take {w : World} {b e s m n : Nat} {B : Option Addr} {c : Nat} {flat : List Value} (h : w.ownsRow b e s (.slice B m c) m flat) (hn : n ≤ m) : w.ownsRow b e s (.slice B n c) n (flat.take (n * s)) := by
  have hl := h.1
  have hm : n * s ≤ m * s := Nat.mul_le_mul_right _ hn
  refine ⟨by rw [List.length_take]; omega, ?_⟩
  rcases h.2 with ⟨hv, h0⟩ | ⟨g, cap, cur, hv, h1, h2, h3, h4, h5, h6⟩
  · injection hv with e1 e2 e3
    subst e1; subst e3
    have : n = 0 := by omega
    subst this
    exact .inl ⟨rfl, rfl⟩
  · injection hv with e1 e2 e3
    subst e1; subst e3
    exact .inr ⟨g, c, cur, rfl, h1, h2, by omega, h4, h5, by rw [← h6, List.take_take]; congr 1; omega⟩

theorem nv_nil (X : Ctx) (w : World) (M : Nat → Prop) (e e' : Nat) (te' : TI) : NV X w M e e' te' (.slice none 0 0) [] (fun _ => []) [] :=
  ⟨by simp, rfl, World.ownsRow_nil w 0 e 1, fun p r hp => by simp at hp, fun p r hp => by simp at hp, fun p k h => (by cases h), fun p q k h => (by simp [blk, undef] at h)⟩

theorem blk_nil (k : Nat) : ¬ Blk (.slice none 0 0) k := fun h => by cases h

/-- boxes that hold nothing any more: what they held has gone into another box -/
def goneG (L : List (Nat × (Box × Value))) : Upd := L.map fun q => (q.1, q.2.1)
def goneV (β : Nat → Value) : List (Nat × (Box × Value)) → Nat → Value
  | [], i => β i
  | q :: L, i => if i = q.1 then q.2.2 else goneV β L i
theorem lookB_gone {bx : List (Nat × Box)} {β : Nat → Value} {id : Nat} : ∀ (L : List (Nat × (Box × Value))),
    (∃ q ∈ L, q.1 = id ∧ lookB id (goneG L ++ bx) = q.2.1 ∧ goneV β L id = q.2.2) ∨ ((∀ q ∈ L, q.1 ≠ id) ∧ lookB id (goneG L ++ bx) = lookB id bx ∧ goneV β L id = β id)
  | [] => .inr ⟨by simp, rfl, rfl⟩
  | q :: L => by
    have e : lookB id (goneG (q :: L) ++ bx) = if id = q.1 then q.2.1 else lookB id (goneG L ++ bx) := lookB_cons ..
    have e2 : goneV β (q :: L) id = if id = q.1 then q.2.2 else goneV β L id := rfl
    by_cases hq : id = q.1
    · exact .inl ⟨q, List.mem_cons_self .., hq.symm, by rw [e, if_pos hq], by rw [e2, if_pos hq]⟩
    · rw [e, e2, if_neg hq, if_neg hq]
      rcases lookB_gone (bx := bx) (β := β) (id := id) L with ⟨q', h1, h2, h3⟩ | ⟨h1, h2⟩
      · exact .inl ⟨q', List.mem_cons_of_mem _ h1, h2, h3⟩
      · exact .inr ⟨fun q' hq' => by
          rcases List.mem_cons.1 hq' with rfl | hq'
          · exact fun e => hq e.symm
          · exact h1 q' hq', h2⟩

/-- ONE BOX IS CHANGED, AND WHAT OTHERS HELD HAS GONE INTO IT -/
theorem Inv.swallowG {X : Ctx} {s : S} {a : Act} {w w' : World} {β : Nat → Value} {id : Nat} {b1 : Box} {v1 : Value} {L : List (Nat × (Box × Value))} (h : Inv X s a w β)
    (hL : ∀ q ∈ L, live (lookB q.1 s.bx) = true ∧ Turned (lookB q.1 s.bx) (β q.1) q.2.1 q.2.2 ∧ (∀ k, ¬ Blk q.2.2 k) ∧ ∀ M' β' lk', β' q.1 = q.2.2 → BoxOK X w' M' β' lk' q.1 q.2.1) (hid : ∀ q ∈ L, q.1 ≠ id)
    (h1 : w'.os = w.os) (h2 : w'.tape = w.tape) (h3 : w'.output = w.output) (hsz : w.heap.size ≤ w'.heap.size)
    (hsame : ∀ k, k < w.heap.size → ¬ (live (lookB id s.bx) = true ∧ Blk (β id) k) → w'.heap[k]? = w.heap[k]?)
    (hnew : live b1 = true → ∀ k, Blk v1 k → (w.heap.size ≤ k ∨ (live (lookB id s.bx) = true ∧ Blk (β id) k) ∨ ∃ q ∈ L, Blk (β q.1) k) ∧ X.own k)
    (ht : Turned (lookB id s.bx) (β id) b1 v1)
    (hb : ∀ β' M', β' id = v1 → Kept w (Vx.MM X (lookB · s.bx) β) w' M' → M' = Vx.MM X (lookB · ((id, b1) :: (goneG L ++ s.bx))) β' → BoxOK X w' M' β' (lookB · ((id, b1) :: (goneG L ++ s.bx))) id b1) :
    ∃ β', β' id = v1 ∧ Inv X ⟨s.fr, (id, b1) :: (goneG L ++ s.bx)⟩ a w' β' := by
  have bid : upd1 (goneV β L) id v1 id = v1 := upd1_same ..
  have lk0 : lookB id ((id, b1) :: (goneG L ++ s.bx)) = b1 := by simp [lookB_cons]
  have lk1 : ∀ i, i ≠ id → lookB i ((id, b1) :: (goneG L ++ s.bx)) = lookB i (goneG L ++ s.bx) := fun i hi => by simp [lookB_cons, hi]
  have cases3 : ∀ i, i = id ∨ (i ≠ id ∧ ∃ q ∈ L, q.1 = i ∧ lookB i ((id, b1) :: (goneG L ++ s.bx)) = q.2.1 ∧ upd1 (goneV β L) id v1 i = q.2.2) ∨
      (i ≠ id ∧ (∀ q ∈ L, q.1 ≠ i) ∧ lookB i ((id, b1) :: (goneG L ++ s.bx)) = lookB i s.bx ∧ upd1 (goneV β L) id v1 i = β i) := fun i => by
    by_cases hi : i = id
    · exact .inl hi
    · rcases lookB_gone (bx := s.bx) (β := β) (id := i) L with ⟨q, g1, g2, g3, g4⟩ | ⟨g1, g2, g3⟩
      · exact .inr (.inl ⟨hi, q, g1, g2, by rw [lk1 i hi]; exact g3, by rw [upd1_other _ _ _ _ hi]; exact g4⟩)
      · exact .inr (.inr ⟨hi, g1, by rw [lk1 i hi]; exact g2, by rw [upd1_other _ _ _ _ hi]; exact g3⟩)
  have hT : ∀ i, Turned (lookB i s.bx) (β i) (lookB i ((id, b1) :: (goneG L ++ s.bx))) (upd1 (goneV β L) id v1 i) := fun i => by
    rcases cases3 i with rfl | ⟨hi, q, q1, q2, q3, q4⟩ | ⟨hi, g1, g2, g3⟩
    · rw [lk0, bid]; exact ht
    · rw [q3, q4, ← q2]; exact (hL q q1).2.1
    · rw [g2, g3]; exact Turned.refl _ _
  refine ⟨_, bid, h.upds h1 h2 h3 hsz (fun k hk hn => hsame k hk fun hh => hn ⟨id, hh⟩) (fun k hk i hl hB => ?_) hT (fun hkept i => ?_) (fun i j k hi hj hki hkj => ?_)⟩
  · rcases cases3 i with rfl | ⟨hi, q, q1, q2, q3, q4⟩ | ⟨hi, g1, g2, g3⟩
    · rw [lk0] at hl
      rw [bid] at hB
      rcases (hnew hl k hB).1 with g | g | ⟨q, q1, q2⟩
      · omega
      · exact ⟨i, g⟩
      · exact ⟨q.1, (hL q q1).1, q2⟩
    · rw [q4] at hB
      exact ((hL q q1).2.2.1 k hB).elim
    · rw [g2] at hl
      rw [g3] at hB
      exact ⟨i, hl, hB⟩
  · rcases cases3 i with rfl | ⟨hi, q, q1, q2, q3, q4⟩ | ⟨hi, g1, g2, g3⟩
    · rw [lk0]; exact hb _ _ bid hkept rfl
    · rw [q3, ← q2]
      exact (hL q q1).2.2.2 _ _ _ (by rw [q2]; exact q4)
    · rw [g2]
      exact (h.box i).keep g3 (fun k hl hk => hsame k ((h.box i).lt hl hk).1 fun ⟨hl', hk'⟩ => hi (h.inj i id k hl hl' hk hk')) hsz hkept hT
  · have key : ∀ i k, i ≠ id → live (lookB i ((id, b1) :: (goneG L ++ s.bx))) = true → live b1 = true → Blk (upd1 (goneV β L) id v1 i) k → Blk v1 k → False := fun i k hi hli hl1 hki hk1 => by
      rcases cases3 i with rfl | ⟨_, q, q1, q2, q3, q4⟩ | ⟨_, g1, g2, g3⟩
      · exact hi rfl
      · rw [q4] at hki; exact (hL q q1).2.2.1 k hki
      · rw [g2] at hli
        rw [g3] at hki
        rcases (hnew hl1 k hk1).1 with g | ⟨g, gk⟩ | ⟨q, q1, q2⟩
        · have := ((h.box i).lt hli hki).1; omega
        · exact hi (h.inj i id k hli g hki gk)
        · exact g1 q q1 (h.inj q.1 i k (hL q q1).1 hli q2 hki)
    by_cases hi' : i = id <;> by_cases hj' : j = id
    · rw [hi', hj']
    · subst hi'
      rw [lk0] at hi
      rw [bid] at hki
      exact (key j k hj' hj hi hkj hki).elim
    · subst hj'
      rw [lk0] at hj
      rw [bid] at hkj
      exact (key i k hi' hi hj hki hkj).elim
    · rcases cases3 i with rfl | ⟨_, q, q1, q2, q3, q4⟩ | ⟨_, g1, g2, g3⟩
      · exact (hi' rfl).elim
      · rw [q4] at hki; exact ((hL q q1).2.2.1 k hki).elim
      · rcases cases3 j with rfl | ⟨_, q, q1, q2, q3, q4⟩ | ⟨_, f1, f2, f3⟩
        · exact (hj' rfl).elim
        · rw [q4] at hkj; exact ((hL q q1).2.2.1 k hkj).elim
        · rw [g2] at hi
          rw [f2] at hj
          rw [g3] at hki
          rw [f3] at hkj
          exact h.inj i j k hi hj hki hkj

/-- own slices that have gone into another own slice: each holds nothing now -/
def goneA (e' : Nat) (L : List (Nat × (Nat × List (List D)))) : List (Nat × (Box × Value)) := L.map fun q => (q.1, (.arr e' (q.2.1 + 1) [], .slice none 0 0))
def gone (e' : Nat) (L : List (Nat × (Nat × List (List D)))) : Upd := goneG (goneA e' L)

theorem goneA_ok {X : Ctx} {s : S} {w' : World} {β : Nat → Value} {e' : Nat} {te' : TI} {L : List (Nat × (Nat × List (List D)))} (hE : X.E e' = some te') (hpos : 0 < te'.size) (hL : ∀ q ∈ L, lookB q.1 s.bx = .arr e' q.2.1 q.2.2) :
    ∀ q ∈ goneA e' L, live (lookB q.1 s.bx) = true ∧ Turned (lookB q.1 s.bx) (β q.1) q.2.1 q.2.2 ∧ (∀ k, ¬ Blk q.2.2 k) ∧ ∀ M' β' lk', β' q.1 = q.2.2 → BoxOK X w' M' β' lk' q.1 q.2.1 := fun q hq => by
  obtain ⟨p, hp, rfl⟩ := List.mem_map.1 hq
  refine ⟨by rw [hL p hp]; rfl, ?_, blk_nil, fun M' β' lk' hβ => ?_⟩
  · rw [hL p hp]
    exact .inl ⟨e', p.2.1 + 1, [], rfl, by omega, fun he => by omega⟩
  · refine ⟨te', [], hE, hpos, by simp, by rw [hβ]; exact World.ownsRow_nil w' 0 e' te'.size, fun k hk => ?_, fun i x j d hx => by simp at hx⟩
    rw [hβ] at hk
    exact (blk_nil k hk).elim

theorem Inv.swallow {X : Ctx} {s : S} {a : Act} {w w' : World} {β : Nat → Value} {id e' : Nat} {te' : TI} {b1 : Box} {v1 : Value} {L : List (Nat × (Nat × List (List D)))} (h : Inv X s a w β)
    (hE : X.E e' = some te') (hpos : 0 < te'.size) (hL : ∀ q ∈ L, lookB q.1 s.bx = .arr e' q.2.1 q.2.2) (hid : ∀ q ∈ L, q.1 ≠ id)
    (h1 : w'.os = w.os) (h2 : w'.tape = w.tape) (h3 : w'.output = w.output) (hsz : w.heap.size ≤ w'.heap.size)
    (hsame : ∀ k, k < w.heap.size → ¬ (live (lookB id s.bx) = true ∧ Blk (β id) k) → w'.heap[k]? = w.heap[k]?)
    (hnew : live b1 = true → ∀ k, Blk v1 k → (w.heap.size ≤ k ∨ (live (lookB id s.bx) = true ∧ Blk (β id) k) ∨ ∃ q ∈ L, Blk (β q.1) k) ∧ X.own k)
    (ht : Turned (lookB id s.bx) (β id) b1 v1)
    (hb : ∀ β' M', β' id = v1 → Kept w (Vx.MM X (lookB · s.bx) β) w' M' → M' = Vx.MM X (lookB · ((id, b1) :: (gone e' L ++ s.bx))) β' → BoxOK X w' M' β' (lookB · ((id, b1) :: (gone e' L ++ s.bx))) id b1) :
    ∃ β', β' id = v1 ∧ Inv X ⟨s.fr, (id, b1) :: (gone e' L ++ s.bx)⟩ a w' β' :=
  h.swallowG (goneA_ok hE hpos hL) (fun q hq => by obtain ⟨p, hp, rfl⟩ := List.mem_map.1 hq; exact hid p hp) h1 h2 h3 hsz hsame
    (fun hl k hk => ⟨by
      rcases (hnew hl k hk).1 with g | g | ⟨q, q1, q2⟩
      · exact .inl g
      · exact .inr (.inl g)
      · exact .inr (.inr ⟨_, List.mem_map.2 ⟨q, q1, rfl⟩, q2⟩), (hnew hl k hk).2⟩) ht hb

/-- an own slice of own slices that has gone into another one -/
theorem goneN_ok {X : Ctx} {s : S} {w' : World} {β : Nat → Value} {e e' : Nat} {te te' : TI} {id v r : Nat} {rows : List (List (List D))} (ty : X.E e = some te) (one : te.size = 1) (kind : te.kind = .slice e') (ty' : X.E e' = some te') (pos : 0 < te'.size) (hl : lookB id s.bx = .nest e v r none rows) :
    ∀ q ∈ [(id, (Box.nest e (v + 1) (r + 1) none [], Value.tuple [Value.slice none 0 0].toArray))], live (lookB q.1 s.bx) = true ∧ Turned (lookB q.1 s.bx) (β q.1) q.2.1 q.2.2 ∧ (∀ k, ¬ Blk q.2.2 k) ∧ ∀ M' β' lk', β' q.1 = q.2.2 → BoxOK X w' M' β' lk' q.1 q.2.1 := fun q hq => by
  have hq := List.mem_singleton.1 hq
  subst hq
  have hno : ∀ k, ¬ Blk (.tuple [Value.slice none 0 0].toArray) k := fun k hk => by
    rcases blk_tuple.1 hk with h1 | ⟨p, h1⟩
    · cases h1
    · simp [blk, undef] at h1
  refine ⟨by simp only [hl]; rfl, ?_, hno, fun M' β' lk' hβ => ?_⟩
  · simp only [hl]
    exact .inl ⟨e, v + 1, r + 1, none, [], rfl, by omega, fun he => by omega, by omega, fun he => by omega⟩
  · have hβ : β' id = .tuple [Value.slice none 0 0].toArray := hβ
    show ∃ te e1 te1 vs cs flat, NestOK X w' M' e te e1 te1 (β' id) vs cs flat none []
    exact ⟨te, e', te', _, _, _, hβ ▸ (nv_nil X w' M' e e' te').nest ty one kind ty' pos fun k hk => (hno k hk).elim⟩

theorem NV.append {X : Ctx} {w w' : World} {M M' : Nat → Prop} {e e' : Nat} {te' : TI} {v0 u0 v' : Value} {V U : List Value} {flat fl : Nat → List Value} {rows ys : List (List (List D))} (h : NV X w M e e' te' v0 V flat rows) (h' : NV X w M e e' te' u0 U fl ys)
    (hk : Kept w M w' M') (hout : w'.ownsRow 0 e 1 v' (rows ++ ys).length (V ++ U)) (hsame : ∀ p k, blk (V.getD p undef) = some k ∨ blk (U.getD p undef) = some k → w'.heap[k]? = w.heap[k]?)
    (h0 : ∀ p k, blk v' = some k → blk (V.getD p undef) ≠ some k ∧ blk (U.getD p undef) ≠ some k) (hap : ∀ p q k, blk (V.getD p undef) = some k → blk (U.getD q undef) ≠ some k) :
    NV X w' M' e e' te' v' (V ++ U) (fun p => if p < rows.length then flat p else fl (p - rows.length)) (rows ++ ys) := by
  have hat : ∀ p, (V ++ U).getD p undef = if p < rows.length then V.getD p undef else U.getD (p - rows.length) undef := fun p => by
    rw [List.getD_eq_getElem?_getD]
    by_cases hp : p < rows.length
    · rw [if_pos hp, List.getElem?_append_left (by rw [h.vlen]; exact hp), List.getD_eq_getElem?_getD]
    · rw [if_neg hp, List.getElem?_append_right (by rw [h.vlen]; omega), List.getD_eq_getElem?_getD, h.vlen]
  have hrow : ∀ (p : Nat) r, (rows ++ ys)[p]? = some r → (p < rows.length ∧ rows[p]? = some r) ∨ (¬ p < rows.length ∧ ys[p - rows.length]? = some r) := fun p r hp => by
    by_cases hlt : p < rows.length
    · rw [List.getElem?_append_left hlt] at hp; exact .inl ⟨hlt, hp⟩
    · rw [List.getElem?_append_right (by omega)] at hp; exact .inr ⟨hlt, hp⟩
  refine ⟨fun r hr => ?_, by simp [h.vlen, h'.vlen], hout, fun p r hp => ?_, fun p r hp i x j d hx hd => ?_, fun p k hk => ?_, fun p q k hp hq => ?_⟩
  · rcases List.mem_append.1 hr with hr | hr
    · exact h.len r hr
    · exact h'.len r hr
  · rw [hat]
    rcases hrow p r hp with ⟨h1, h2⟩ | ⟨h1, h2⟩
    · simp only [if_pos h1]
      exact ownsRow_heap (h.row p r h2) fun k hk => hsame p k (.inl hk)
    · simp only [if_neg h1]
      exact ownsRow_heap (h'.row _ r h2) fun k hk => hsame _ k (.inr hk)
  · rcases hrow p r hp with ⟨h1, h2⟩ | ⟨h1, h2⟩
    · simp only [if_pos h1]
      exact (h.at_ p r h2 i x j d hx hd).keep hk
    · simp only [if_neg h1]
      exact (h'.at_ _ r h2 i x j d hx hd).keep hk
  · rw [hat]
    split
    · exact (h0 p k hk).1
    · exact (h0 _ k hk).2
  · rw [hat] at hp hq
    by_cases h1 : p < rows.length <;> by_cases h2 : q < rows.length
    · rw [if_pos h1] at hp
      rw [if_pos h2] at hq
      exact h.apart p q k hp hq
    · rw [if_pos h1] at hp
      rw [if_neg h2] at hq
      exact (hap p _ k hp hq).elim
    · rw [if_neg h1] at hp
      rw [if_pos h2] at hq
      exact (hap q _ k hq hp).elim
    · rw [if_neg h1] at hp
      rw [if_neg h2] at hq
      have := h'.apart _ _ k hp hq
      omega

end Go.Vx
end

section
set_option linter.unusedVariables false
set_option linter.unusedSimpArgs false
namespace Go.Vx
open Go Go.RowKit

theorem splice_at {α : Type} (l vs : List α) (off j : Nat) (h : off + vs.length ≤ l.length) :
    (l.take off ++ (vs ++ l.drop (off + vs.length)))[j]? = if j < off then l[j]? else if j < off + vs.length then vs[j - off]? else l[j]? := by
  by_cases h1 : j < off
  · rw [List.getElem?_append_left (by rw [List.length_take]; omega), List.getElem?_take, if_pos h1, if_pos h1]
  · have hl : (l.take off).length = off := by rw [List.length_take]; omega
    rw [List.getElem?_append_right (by omega), hl, if_neg h1]
    by_cases h2 : j < off + vs.length
    · rw [List.getElem?_append_left (by omega), if_pos h2]
    · rw [List.getElem?_append_right (by omega), List.getElem?_drop, if_neg h2]
      congr 1; omega
theorem splice_len {α : Type} (l vs : List α) (off : Nat) (h : off + vs.length ≤ l.length) : (l.take off ++ (vs ++ l.drop (off + vs.length))).length = l.length := by
  simp; omega

theorem run_storeVar_at {P : Program} {E : Env} {T : Nat} {ti : TI} (hty : TyOK P E T ti) (w : World) (g off : Nat) (cur : Array Value) (t : Nat) (v : Value) (hg : w.heap[g]? = some (.cells cur t (0, 0)))
    (hs : v.cells.size = ti.size) (hl : off + v.cells.size ≤ cur.size) (h1 : ∀ c ∈ v.cells.toList, c.oneCell' = true) :
    (Instr.storeAt T (.pointer (some ⟨g, off, none⟩)) v).run P w = .ok () (w.setRow g (cur.toList.take off ++ (v.cells.toList ++ cur.toList.drop (off + v.cells.toList.length))).toArray) := by
  have := run_storeCells_at P g off t v.cells.toList 0 cur w hg (by simpa using hl) h1
  simp only [Nat.add_zero, List.append_assoc] at this
  simp [Instr.storeAt, Instr.sureAddr, storeVar, hty.size_run, hs, this]

theorem exec_store {o : Oper} {t : Nat} {p x : Operand} (ho : o.op = .store t p x) {ρ : Operand → Value} {P : Program} {w w' : World} (h : (Instr.storeAt t (ρ p) (ρ x)).run P w = .ok () w') : (execOp ρ o).run P w = .ok .skip w' := by
  simp [execOp, ho, h]

section
variable {X : Ctx} {s : S} {a : Act} {w : World} {β : Nat → Value} {o : Oper} {d : Nat} {bb : Box} {v : AV} {u : Upd}

/-- a block of the call's own has its cells set -/
theorem set_changed {id g : Nat} {b1 : Box} {cs : Array Value} (h : Inv X s a w β) (hlive : live (lookB id s.bx) = true) (hb : Blk (β id) g) (ht : Turned (lookB id s.bx) (β id) b1 (β id)) : Changed X s w β id b1 (β id) (w.setRow g cs) := by
  refine ⟨rfl, rfl, rfl, by simp, fun k hk hn => setRow_other w g k cs ?_, fun k _ hk => ⟨.inr ⟨hlive, hk⟩, ((h.box id).lt hlive hk).2⟩, ht⟩
  rintro rfl
  exact hn ⟨hlive, hb⟩

theorem getD_toList (l : List Value) (j : Nat) : l.toArray.getD j undef = (l[j]?).getD undef := by
  simp [Array.getD_eq_getD_getElem?]

theorem m_storeB (h : Inv X s a w β) (hE : EnvOK X.P X.E) {t : Nat} {p x : Operand} {ti : TI} {id off : Nat} (ho : o.op = .store t p x) (hT : X.E t = some ti) (hp : ev s.fr p = .bp id off) (hok : okCells (ev s.fr x) = true)
    (hg : Gets X.P X.E d bb (storeB id off ti.size (cellsOf (ev s.fr x)) (lookB id s.bx)) v u) : Moves X s a w o v u := by
  have hty := hE t ti hT
  have hpv := h.ev p
  rw [hp] at hpv
  generalize hap : a.eval p = vp at hpv
  cases hpv with
  | bp _ _ g cs hl hb =>
    rw [hl] at hg
    simp only [storeB] at hg
    obtain ⟨hc, hg⟩ := cond_val hg
    obtain ⟨rfl, rfl⟩ := hg
    simp only [Bool.and_eq_true, beq_iff_eq, decide_eq_true_eq] at hc
    have hbox := h.box id
    rw [hl] at hbox
    obtain ⟨g', el, conc, hb', hown, hheap, hsz, hcells⟩ := hbox
    rw [hb] at hb'
    injection hb' with hb'
    injection hb' with hb'
    injection hb' with hb'
    subst hb'
    obtain ⟨hxs, hx1, hxr⟩ := cells_rv (h.ev x) hok
    have hlen : off + (a.eval x).cells.toList.length ≤ conc.toList.length := by
      simp only [Array.length_toList]; omega
    have hrun := run_storeVar_at hty w g off conc el (a.eval x) hheap (by rw [hxs]; exact hc.1) (by rw [hxs, hsz]; exact hc.2) hx1
    obtain ⟨nl, hnl⟩ : ∃ nl, nl = conc.toList.take off ++ ((a.eval x).cells.toList ++ conc.toList.drop (off + (a.eval x).cells.toList.length)) := ⟨_, rfl⟩
    rw [← hnl] at hrun
    have hch : Changed X s w β id (.cells (spliceA cs (cellsOf (ev s.fr x)) off)) (β id) (w.setRow g nl.toArray) :=
      set_changed h (by rw [hl]; rfl) (by rw [hb]; rfl) (by rw [hl]; exact ⟨⟨_, rfl⟩, rfl⟩)
    have hinv := h.upd hch ⟨g, el, _, by rw [upd1_same]; exact hb, hown, setRow_heap w g conc _ el (0, 0) hheap, by
      rw [List.size_toArray, hnl, splice_len _ _ _ hlen, Array.length_toList, hsz]
      exact (splice_len _ _ _ hc.2).symm, fun j av hj => by
      unfold spliceA at hj
      rw [splice_at _ _ _ _ hc.2] at hj
      rw [getD_toList, congrArg (·[j]?) hnl]
      rw [splice_at _ _ _ _ hlen]
      have hcl : (a.eval x).cells.toList.length = (cellsOf (ev s.fr x)).length := by rw [Array.length_toList, hxs]
      rw [hcl]
      have hold : ∀ j av, cs[j]? = some av → (conc.toList[j]?).getD undef = conc.getD j undef := fun j av _ => by
        simp [Array.getD_eq_getD_getElem?]
      by_cases h1 : j < off
      · rw [if_pos h1] at hj ⊢
        rw [hold j av hj]
        exact ⟨(hcells j av hj).1, ((hcells j av hj).2).keep hch.size hch.kept hch.turned⟩
      · rw [if_neg h1] at hj ⊢
        by_cases h2 : j < off + (cellsOf (ev s.fr x)).length
        · rw [if_pos h2] at hj ⊢
          have := hxr (j - off) av hj
          have e : ((a.eval x).cells.toList[j - off]?).getD undef = (a.eval x).cells.getD (j - off) undef := by
            simp [Array.getD_eq_getD_getElem?]
          rw [e]
          exact ⟨cellT_of this.1, this.2.keep hch.size hch.kept hch.turned⟩
        · rw [if_neg h2] at hj ⊢
          rw [hold j av hj]
          exact ⟨(hcells j av hj).1, ((hcells j av hj).2).keep hch.size hch.kept hch.turned⟩⟩
    refine ⟨_, undef, _, _, exec_store ho (by rw [hap]; exact hrun), .inr ⟨rfl, rfl⟩, hinv, .top _⟩

theorem set_get {α : Type} {xs : List α} {i : Nat} {y : α} {i' : Nat} {x : α} (hx : (xs.set i y)[i']? = some x) : (i = i' ∧ x = y) ∨ (i ≠ i' ∧ xs[i']? = some x) := by
  rw [List.getElem?_set] at hx
  by_cases hi : i = i'
  · rw [if_pos hi] at hx
    split at hx
    · injection hx with hx
      exact .inl ⟨hi, hx.symm⟩
    · cases hx
  · rw [if_neg hi] at hx
    exact .inr ⟨hi, hx⟩

theorem m_storeO (h : Inv X s a w β) (hE : EnvOK X.P X.E) {t : Nat} {p x : Operand} {ti : TI} {id ver i sz off : Nat} (ho : o.op = .store t p x) (hT : X.E t = some ti) (hp : ev s.fr p = .op id ver i sz off)
    (hg : Gets X.P X.E d bb (storeO id ver i off ti.size (lookB id s.bx) (toDs s.bx (ev s.fr x))) v u) : Moves X s a w o v u := by
  have hty := hE t ti hT
  unfold storeO at hg
  split at hg
  · rename_i ds u0 hds
    split at hg
    · rename_i e v' xs hl
      obtain ⟨hc, hg⟩ := cond_val hg
      obtain ⟨⟨hi, hoff⟩, hg⟩ := hg
      obtain ⟨rfl, rfl⟩ := hg
      simp only [Bool.and_eq_true, beq_iff_eq] at hc
      obtain ⟨hv, hdl, hni⟩ := hc
      obtain ⟨hfz, hcells⟩ := toDs_sound h (h.ev x) hds
      have h1 := h.freezeL hfz
      have hl1 : lookB id (u0 ++ s.bx) = .arr e v' xs := (lookB_notIn hni).trans hl
      have hpv := h1.ev p
      simp only [hp] at hpv
      generalize hap : a.eval p = vp at hpv
      cases hpv with
      | op _ _ _ _ _ _ ho1 hop =>
        rw [hl1] at hop
        obtain ⟨hszs, g, n, c, hβ, hvp⟩ := hop.2 hv.symm
        have hbox := h1.box id
        simp only [hl1] at hbox
        obtain ⟨te, hEe, h0, hlen, hn, cur, hheap, hcs, hnc, _, hrp⟩ := own_elem hbox hβ
        have hbox' := hbox
        obtain ⟨te', flat, hEe', _, _, hownr, hownk, _⟩ := hbox'
        have hcm : c ≤ maxLen := by
          rw [hβ] at hownr
          rcases hownr.2 with ⟨hv, _⟩ | ⟨g', cap, cur', hv, _, hg, hnc, hcm, _⟩
          · cases hv
          · injection hv with _ _ h3; subst h3; exact hcm
        have hxi : xs[i]? = some (xs.getD i []) := by simp [List.getD, List.getElem?_eq_getElem hi]
        have hxl := hlen _ (List.mem_of_getElem? hxi)
        have hse : sz = te.size := (hszs _ (List.mem_of_getElem? hxi)).symm.trans hxl
        subst hse
        subst hvp
        have hii : i * te.size + te.size ≤ xs.length * te.size := by
          rw [← Nat.succ_mul]; exact Nat.mul_le_mul_right _ hi
        have hccc : xs.length * te.size ≤ c * te.size := Nat.mul_le_mul_right _ hnc
        have hcl : (a.eval x).cells.toList.length = ds.length := by rw [Array.length_toList]; exact hcells.1
        rw [hxl] at hoff
        have hfit : i * te.size + off + (a.eval x).cells.toList.length ≤ cur.toList.length := by
          rw [hcl, Array.length_toList (xs := cur)]; omega
        have hone : ∀ cc ∈ (a.eval x).cells.toList, cc.oneCell' = true := fun cc hcc => by
          obtain ⟨j, hj⟩ := List.getElem?_of_mem hcc
          have hlt := (List.getElem?_eq_some_iff.1 hj).1
          have := (hcells.2 j _ (one_getD (n := j) (by omega))).one
          have e2 : (a.eval x).cells.getD j undef = cc := by
            rw [Array.getElem?_toList] at hj
            simp [Array.getD_eq_getD_getElem?, hj]
          rw [e2] at this; exact this
        have hrun := run_storeVar_at hty w g (i * te.size + off) cur e (a.eval x) hheap (by rw [hcells.1]; exact hdl) (by rw [hcells.1]; rw [hcl, Array.length_toList (xs := cur)] at hfit; exact hfit) hone
        obtain ⟨nl, hnl⟩ : ∃ nl, nl = cur.toList.take (i * te.size + off) ++ ((a.eval x).cells.toList ++ cur.toList.drop (i * te.size + off + (a.eval x).cells.toList.length)) := ⟨_, rfl⟩
        rw [← hnl] at hrun
        have hsl : (splice (xs.getD i []) ds off).length = te.size := (splice_len _ _ _ (by rw [hxl]; exact hoff)).trans hxl
        have hch : Changed X ⟨s.fr, u0 ++ s.bx⟩ w β id (.arr e v' (xs.set i (splice (xs.getD i []) ds off))) (β id) (w.setRow g nl.toArray) :=
          set_changed h1 (by rw [hl1]; rfl) (by rw [hβ]; rfl) (by
            rw [hl1]
            refine .inl ⟨e, v', _, rfl, Nat.le_refl _, fun _ => ⟨rfl, fun sz hsz x hx => ?_⟩⟩
            obtain ⟨i', hi'⟩ := List.getElem?_of_mem hx
            rcases set_get hi' with ⟨_, rfl⟩ | ⟨_, h3⟩
            · rw [hsl, ← hxl]
              exact hsz _ (List.mem_of_getElem? hxi)
            · exact hsz _ (List.mem_of_getElem? h3))
        have hcur' : nl.length = c * te.size := by
          rw [hnl, splice_len _ _ _ hfit, Array.length_toList (xs := cur)]; exact hcs.symm
        have hxsl : (xs.set i (splice (xs.getD i []) ds off)).length = xs.length := List.length_set ..
        have hinv := h1.upd hch ⟨te, nl.take (xs.length * te.size), hEe, h0, fun x hx => by
            obtain ⟨i', hi'⟩ := List.getElem?_of_mem hx
            rcases set_get hi' with ⟨_, rfl⟩ | ⟨_, h3⟩
            · exact hsl
            · exact hlen _ (List.mem_of_getElem? h3), ⟨by rw [hxsl, List.length_take, hcur']; omega, .inr ⟨g, c, _, by rw [upd1_same, hxsl, hβ, hn], Nat.zero_le _, setRow_heap w g cur _ e (0, 0) hheap, by rw [hxsl]; exact hnc, hcm, by rw [List.size_toArray]; exact hcur', by rw [hxsl]⟩⟩, fun k hk => by rw [upd1_same] at hk; exact hownk k hk, fun i' x' j dd hx' hd => by
            have hi'l : i' < xs.length := by
              have := (List.getElem?_eq_some_iff.1 hx').1
              rwa [hxsl] at this
            have hx'l : x'.length = te.size := by
              rcases set_get hx' with ⟨_, rfl⟩ | ⟨_, h3⟩
              · exact hsl
              · exact hlen _ (List.mem_of_getElem? h3)
            have hj : j < te.size := by rw [← hx'l]; exact (List.getElem?_eq_some_iff.1 hd).1
            have hi'i : i' * te.size + te.size ≤ xs.length * te.size := by
              rw [← Nat.succ_mul]; exact Nat.mul_le_mul_right _ hi'l
            have e1 : ∀ l : List Value, (l.take (xs.length * te.size)).getD (i' * te.size + j) undef = (l[i' * te.size + j]?).getD undef := fun l => by
              rw [List.getD_eq_getElem?_getD, List.getElem?_take, if_pos (by omega)]
            rw [e1, congrArg (·[i' * te.size + j]?) hnl, splice_at _ _ _ _ hfit, hcl]
            have hcurg : (cur.toList[i' * te.size + j]?).getD undef = cur.getD (i' * te.size + j) undef := by
              simp [Array.getD_eq_getD_getElem?]
            have hmul : ∀ m n : Nat, m < n → m * te.size + te.size ≤ n * te.size := fun m n hmn => by
              rw [← Nat.succ_mul]; exact Nat.mul_le_mul_right _ hmn
            rcases set_get hx' with ⟨rfl, rfl⟩ | ⟨hne, h3⟩
            · unfold splice at hd
              rw [splice_at _ _ _ _ (by rw [hxl]; exact hoff)] at hd
              by_cases h4 : j < off
              · rw [if_pos h4] at hd
                rw [if_pos (by omega), hcurg]
                exact (hrp i _ j dd hxi hd).keep hch.kept
              · rw [if_neg h4] at hd
                by_cases h5 : j < off + ds.length
                · rw [if_pos h5] at hd
                  rw [if_neg (by omega), if_pos (by omega)]
                  have := hcells.2 (j - off) dd hd
                  have e2 : i * te.size + j - (i * te.size + off) = j - off := by omega
                  rw [e2]
                  have e3 : ((a.eval x).cells.toList[j - off]?).getD undef = (a.eval x).cells.getD (j - off) undef := by
                    simp [Array.getD_eq_getD_getElem?]
                  rw [e3]
                  exact this.keep hch.kept
                · rw [if_neg h5] at hd
                  rw [if_neg (by omega), if_neg (by omega), hcurg]
                  exact (hrp i _ j dd hxi hd).keep hch.kept
            · have hold := (hrp i' _ j dd h3 hd).keep hch.kept
              rcases Nat.lt_or_gt_of_ne hne with hlt | hgt
              · have := hmul i i' hlt
                rw [if_neg (by omega), if_neg (by omega), hcurg]; exact hold
              · have := hmul i' i hgt
                rw [if_pos (by omega), hcurg]; exact hold⟩
        refine ⟨_, undef, _, _, exec_store ho (by rw [hap]; exact hrun), .inr ⟨rfl, rfl⟩, hinv, .top _⟩
    · exact hg.elim
  · exact hg.elim

/-! owned slices of owned slices -/
theorem own_store {P : Program} {E : Env} {T : Nat} {ti : TI} (hty : TyOK P E T ti) {w : World} {b e size g n cap : Nat} {flat : List Value} (h : w.ownsRow b e size (.slice (some ⟨g, 0, none⟩) n cap) n flat) {v : Value} {k : Nat} (hs : v.cells.size = ti.size)
    (hk : k + v.cells.toList.length ≤ n * size) (h1 : ∀ c ∈ v.cells.toList, c.oneCell' = true) :
    ∃ nl : List Value, (Instr.storeAt T (.pointer (some ⟨g, k, none⟩)) v).run P w = .ok () (w.setRow g nl.toArray) ∧ (w.setRow g nl.toArray).ownsRow b e size (.slice (some ⟨g, 0, none⟩) n cap) n (flat.take k ++ (v.cells.toList ++ flat.drop (k + v.cells.toList.length))) := by
  have hfl := h.1
  rcases h.2 with ⟨hv, _⟩ | ⟨g', cap', cur, hv, hb, hg, hnc, hcm, hcs, ht⟩
  · cases hv
  · injection hv with e1 _ e3
    injection e1 with e1
    injection e1 with e1
    subst e1; subst e3
    have hnn : n * size ≤ cap * size := Nat.mul_le_mul_right _ hnc
    have hfit : k + v.cells.toList.length ≤ cur.toList.length := by rw [Array.length_toList (xs := cur), hcs]; omega
    refine ⟨cur.toList.take k ++ (v.cells.toList ++ cur.toList.drop (k + v.cells.toList.length)), run_storeVar_at hty w g k cur e v hg hs (by rw [Array.length_toList (xs := cur), Array.length_toList (xs := v.cells)] at hfit; exact hfit) h1, ?_, .inr ⟨g, cap, _, rfl, hb, setRow_heap w g cur _ e (0, 0) hg, hnc, hcm, ?_, ?_⟩⟩
    · rw [splice_len _ _ _ (by rw [hfl]; exact hk), hfl]
    · rw [List.size_toArray, splice_len _ _ _ hfit, Array.length_toList (xs := cur), hcs]
    · refine List.ext_getElem? fun j => ?_
      rw [List.getElem?_take, splice_at cur.toList _ _ _ hfit, splice_at flat _ _ _ (by rw [hfl]; exact hk)]
      have hcur : ∀ j, j < n * size → cur.toList[j]? = flat[j]? := fun j hj => by rw [← ht, List.getElem?_take, if_pos hj]
      by_cases hj : j < n * size
      · rw [if_pos hj]
        split
        · exact hcur j hj
        · split
          · rfl
          · exact hcur j hj
      · rw [if_neg hj]
        split
        · omega
        · split
          · omega
          · rw [List.getElem?_eq_none (by omega)]

theorem splice_rp {w : World} {M : Nat → Prop} {size : Nat} {row : List (List D)} {flat vs : List Value} {i off : Nat} {ds : List D} (hlen : ∀ x ∈ row, x.length = size) (hfl : flat.length = row.length * size)
    (hr : ∀ i x j d, row[i]? = some x → x[j]? = some d → Rp w M (flat.getD (i * size + j) undef) d) (hi : i < row.length) (hoff : off + ds.length ≤ size) (hvl : vs.length = ds.length) (hv : ∀ j d, ds[j]? = some d → Rp w M (vs.getD j undef) d) :
    ∀ i' x j d, (row.set i (splice (row.getD i []) ds off))[i']? = some x → x[j]? = some d → Rp w M ((flat.take (i * size + off) ++ (vs ++ flat.drop (i * size + off + vs.length))).getD (i' * size + j) undef) d := by
  intro i' x' j dd hx' hd
  have hxi : row[i]? = some (row.getD i []) := get_getD hi
  have hxl := hlen _ (List.mem_of_getElem? hxi)
  have hsl : (splice (row.getD i []) ds off).length = size := (splice_len _ _ _ (by rw [hxl]; exact hoff)).trans hxl
  have hi'l : i' < row.length := by
    have := (List.getElem?_eq_some_iff.1 hx').1
    rwa [List.length_set] at this
  have hx'l : x'.length = size := by
    rcases set_get hx' with ⟨_, rfl⟩ | ⟨_, h3⟩
    · exact hsl
    · exact hlen _ (List.mem_of_getElem? h3)
  have hj : j < size := by rw [← hx'l]; exact (List.getElem?_eq_some_iff.1 hd).1
  have hmul : ∀ m n : Nat, m < n → m * size + size ≤ n * size := fun m n hmn => by
    rw [← Nat.succ_mul]; exact Nat.mul_le_mul_right _ hmn
  have hfit : i * size + off + vs.length ≤ flat.length := by
    have := hmul i row.length hi
    omega
  rw [List.getD_eq_getElem?_getD, splice_at _ _ _ _ hfit, hvl]
  have hold : ∀ k, (flat[k]?).getD undef = flat.getD k undef := fun k => (List.getD_eq_getElem?_getD ..).symm
  rcases set_get hx' with ⟨rfl, rfl⟩ | ⟨hne, h3⟩
  · unfold splice at hd
    rw [splice_at _ _ _ _ (by rw [hxl]; exact hoff)] at hd
    by_cases h4 : j < off
    · rw [if_pos h4] at hd
      rw [if_pos (by omega), hold]
      exact hr i _ j dd hxi hd
    · rw [if_neg h4] at hd
      by_cases h5 : j < off + ds.length
      · rw [if_pos h5] at hd
        rw [if_neg (by omega), if_pos (by omega)]
        have := hv (j - off) dd hd
        rw [show i * size + j - (i * size + off) = j - off by omega, ← List.getD_eq_getElem?_getD]
        exact this
      · rw [if_neg h5] at hd
        rw [if_neg (by omega), if_neg (by omega), hold]
        exact hr i _ j dd hxi hd
  · have := hr i' _ j dd h3 hd
    rcases Nat.lt_or_gt_of_ne hne with hlt | hgt
    · have := hmul i i' hlt
      rw [if_neg (by omega), if_neg (by omega), hold]; assumption
    · have := hmul i' i hgt
      rw [if_pos (by omega), hold]; assumption

theorem nest_heap {M : Nat → Prop} {e : Nat} {te : TI} {e' : Nat} {te' : TI} {b : Value} {vs : Array Value} {cs : List Value} {flat : Nat → List Value} {dt : Option Nat} {rows : List (List (List D))} (h : NestOK X w M e te e' te' b vs cs flat dt rows) (q : Nat) {g : Nat} (hg : blk (vs.getD q undef) = some g) (l : List Value) :
    ∀ j k, j ≠ q → blk (vs.getD j undef) = some k → (w.setRow g l.toArray).heap[k]? = w.heap[k]? := fun j k hj hk => by
  refine setRow_other w g k _ ?_
  rintro rfl
  exact hj (h.apart j q k hk hg)

theorem m_storeRow (h : Inv X s a w β) (hE : EnvOK X.P X.E) {t : Nat} {p x : Operand} {ti : TI} {id ver i sz : Nat} {e v0 r e' : Nat} {te te' : TI} {rows : List (List (List D))} (ho : o.op = .store t p x) (hT : X.E t = some ti) (hp : ev s.fr p = .op id ver i sz 0) (h1 : ti.size = 1)
    (hl : lookB id s.bx = .nest e v0 r none rows) (hv : v0 = ver) {vs : Array Value} {cs : List Value} {flat : Nat → List Value} (hn : NestOK X w (MM X (lookB · s.bx) β) e te e' te' (β id) vs cs flat none rows) (hi : i < rows.length)
    {L : List (Nat × (Nat × List (List D)))} (hL : ∀ q ∈ L, lookB q.1 s.bx = .arr e' q.2.1 q.2.2) (hid : ∀ q ∈ L, q.1 ≠ id) {ys : List (List D)} {fl : List Value} (hrow : w.ownsRow 0 e' te'.size (a.eval x) ys.length fl) (hlen : ∀ x ∈ ys, x.length = te'.size)
    (hat : ∀ i x j d, ys[i]? = some x → x[j]? = some d → Rp w (MM X (lookB · s.bx) β) (fl.getD (i * te'.size + j) undef) d)
    (hblk : ∀ k, blk (a.eval x) = some k → blk (innerV i (β id)) = some k ∨ ∃ q ∈ L, Blk (β q.1) k) : Moves X s a w o .top ((id, .nest e v0 (r + 1) none (rows.set i ys)) :: gone e' L) := by
  have hty := hE t ti hT
  have hpv := h.ev p
  rw [hp] at hpv
  have hin : ∀ q, innerV q (β id) = vs.getD (q + 1) undef := fun q => hn.inner_val q
  obtain ⟨u0, V, hβ, hnv⟩ := hn.nv
  generalize hap : a.eval p = vp at hpv
  generalize hax : a.eval x = vx at hrow hblk
  have hx1 : vx.oneCell' = true := own_one hrow
  have hlive : live (lookB id s.bx) = true := by rw [hl]; rfl
  have hinV : innerV i (β id) = V.getD i undef := by rw [hβ]; show (u0 :: V).toArray.getD (i + 1) undef = _; rw [getD_cons_arr]; rfl
  have houter : outerV (β id) = u0 := by rw [hβ]; show (u0 :: V).toArray.getD 0 undef = _; rw [getD_cons_arr]; rfl
  rw [hinV] at hblk
  have hlt : ∀ k, Blk (β id) k → k < w.heap.size ∧ X.own k := fun k hk => (h.box id).lt hlive hk
  have hbV : ∀ q k, blk (V.getD q undef) = some k → Blk (β id) k := fun q k hk => by rw [hβ, blk_tuple]; exact .inr ⟨q, hk⟩
  have hb0 : ∀ k, blk u0 = some k → Blk (β id) k := fun k hk => by rw [hβ, blk_tuple]; exact .inl hk
  have hLlive : ∀ q ∈ L, live (lookB q.1 s.bx) = true := fun q hq => by rw [hL q hq]; rfl
  cases hpv with
  | op _ _ _ _ _ _ ho1 hop =>
    rw [hl] at hop
    obtain ⟨g, n, c, hβ0, hvp⟩ := hop.2 hv.symm
    rw [houter] at hβ0
    have hown := hnv.outer
    rw [hβ0] at hown
    have hnl : n = rows.length := by
      rcases hown.2 with ⟨hv, _⟩ | ⟨_, _, _, hv, _⟩
      · cases hv
      · injection hv
    subst hnl
    have hcells : vx.cells = #[vx] := cells_one hx1
    obtain ⟨nl, hrun, hown'⟩ := own_store hty hown (v := vx) (k := i * 1 + 0) (by rw [hcells, h1]; rfl) (by rw [hcells]; simp; omega) (by rw [hcells]; simpa using hx1)
    have hset : V.take (i * 1 + 0) ++ (vx.cells.toList ++ V.drop (i * 1 + 0 + vx.cells.toList.length)) = V.set i vx := by
      rw [hcells, List.set_eq_take_append_cons_drop, if_pos (by rw [hnv.vlen]; exact hi)]
      simp
    rw [hset] at hown'
    have hblk0 : blk u0 = some g := by rw [hβ0]; rfl
    have hout : ∀ k, k ≠ g → (w.setRow g nl.toArray).heap[k]? = w.heap[k]? := fun k hk => setRow_other w g k _ hk
    have hvx0 : ∀ k, blk vx = some k → k ≠ g := fun k hk e => by
      subst e
      rcases hblk k hk with h2 | ⟨q, h2, h3⟩
      · exact hnv.apartO i k hblk0 h2
      · exact hid q h2 (h.inj q.1 id k (hLlive q h2) hlive h3 (hb0 k hblk0))
    obtain ⟨β', hβ', hinv⟩ := h.swallow (w' := w.setRow g nl.toArray) (id := id) (b1 := .nest e v0 (r + 1) none (rows.set i ys)) (v1 := .tuple (u0 :: V.set i vx).toArray) hn.ty' hn.pos hL hid rfl rfl rfl (by simp)
      (fun k hk hne => hout k fun e => by subst e; exact hne ⟨hlive, hb0 _ hblk0⟩)
      (fun _ k hk => by
        rw [blk_tuple] at hk
        rcases hk with hk | ⟨q, hk⟩
        · exact ⟨.inr (.inl ⟨hlive, hb0 k hk⟩), (hlt k (hb0 k hk)).2⟩
        · rw [getD_set (by rw [hnv.vlen]; exact hi)] at hk
          split at hk
          · rcases hblk k hk with h2 | ⟨q, h2, h3⟩
            · exact ⟨.inr (.inl ⟨hlive, hbV _ k h2⟩), (hlt k (hbV _ k h2)).2⟩
            · exact ⟨.inr (.inr ⟨q, h2, h3⟩), ((h.box q.1).lt (hLlive q h2) h3).2⟩
          · exact ⟨.inr (.inl ⟨hlive, hbV _ k hk⟩), (hlt k (hbV _ k hk)).2⟩)
      (by
        rw [hl]
        refine .inl ⟨e, v0, r + 1, none, _, rfl, Nat.le_refl _, fun _ => ?_, by omega, fun he => by omega⟩
        rw [houter]
        show (u0 :: V.set i vx).toArray.getD 0 undef = _
        rw [getD_cons_arr]; rfl)
      (fun β' M' hβ' hkept hM' => by
        refine ⟨te, e', te', _, _, _, hβ' ▸ (NV.set hnv hi hkept hlen (by rw [hβ0]; exact hown') (fun q k hq hk => hout k fun e => ?_) (ownsRow_heap hrow fun k hk => hout k (hvx0 k hk)) (fun i x j d hx hd => (hat i x j d hx hd).keep hkept) (fun k h2 h3 => hvx0 k h3 ?_) fun q k hq h2 h3 => ?_).nest hn.ty hn.one hn.kind hn.ty' hn.pos fun k hk => ?_⟩
        · subst e; exact hnv.apartO q _ hblk0 hk
        · rw [hblk0] at h2; injection h2 with h2; exact h2.symm
        · rcases hblk k h3 with h4 | ⟨q', h4, h5⟩
          · exact hq (hnv.apart q i k h2 h4)
          · exact hid q' h4 (h.inj q'.1 id k (hLlive q' h4) hlive h5 (hbV q k h2))
        · rw [blk_tuple] at hk
          rcases hk with hk | ⟨q, hk⟩
          · exact (hlt k (hb0 k hk)).2
          · rw [getD_set (by rw [hnv.vlen]; exact hi)] at hk
            split at hk
            · rcases hblk k hk with h2 | ⟨q, h2, h3⟩
              · exact (hlt k (hbV _ k h2)).2
              · exact ((h.box q.1).lt (hLlive q h2) h3).2
            · exact (hlt k (hbV _ k hk)).2)
    subst hvp
    exact ⟨_, undef, _, β', exec_store ho (by rw [hap, hax]; exact hrun), .inr ⟨rfl, rfl⟩, hinv, .top _⟩

theorem m_storeN (h : Inv X s a w β) (hE : EnvOK X.P X.E) {t : Nat} {p x : Operand} {ti : TI} {id ver i sz off : Nat} {e v0 r : Nat} {dt : Option Nat} {rows : List (List (List D))} (ho : o.op = .store t p x) (hT : X.E t = some ti) (hp : ev s.fr p = .op id ver i sz off)
    (hl : lookB id s.bx = .nest e v0 r dt rows) (hc : (v0 == ver && (off == 0 && ti.size == 1)) = true) (hg : Gets X.P X.E d bb (storeN X.E s.bx id i e v0 r dt rows (ev s.fr x)) v u) : Moves X s a w o v u := by
  have hty := hE t ti hT
  simp only [Bool.and_eq_true, beq_iff_eq] at hc
  obtain ⟨hv, h0, h1⟩ := hc
  subst h0
  have hxv := h.ev x
  cases hx : ev s.fr x <;> rw [hx] at hg hxv <;> simp only [storeN] at hg <;> try (exact hg.elim)
  case osl id' ver' =>
    subst hv
    unfold storeRo at hg
    split at hg
    · rename_i e1 hse
      unfold storeR at hg
      split at hg
      · rename_i xs pp hra
        cases hpi : (pp.1 == id) <;> rw [hpi] at hg
        · obtain ⟨hi, rfl, rfl⟩ := hg
          simp only [rowA] at hra
          unfold rowO at hra
          split at hra
          · rename_i e2 v2 xs2 hl2
            cases hcc : (v2 == ver' && e2 == e1) <;> rw [hcc] at hra
            · cases hra
            · simp only [Bool.and_eq_true, beq_iff_eq] at hcc
              obtain ⟨rfl, rfl⟩ := hcc
              simp only [cond_true, Option.some.injEq, Prod.mk.injEq] at hra
              obtain ⟨rfl, rfl⟩ := hra
              have hbox := h.box id
              rw [hl] at hbox
              obtain ⟨te, e', te', vs, cs, flat, hn⟩ := hbox
              have he' : e' = e2 := by
                have := hn.kind
                rw [hn.ty] at hse
                simp only [slE, this] at hse
                injection hse
              subst he'
              have hb2 := h.box id'
              rw [hl2] at hb2
              obtain ⟨te2, fl, hE2, _, hlen, hrow, _, hat⟩ := hb2
              have : te2 = te' := by
                have h3 := hn.ty'
                rw [hE2] at h3
                injection h3
              subst this
              have hne : id' ≠ id := by simpa using hpi
              have hvx : a.eval x = β id' := by
                generalize a.eval x = vx at hxv
                cases hxv with
                | osl _ _ _ _ hok => rw [hl2] at hok; exact hok.2 rfl
              have := m_storeRow (L := [(id', v2, xs2)]) (ys := xs2) (fl := fl) h hE ho hT hp h1 hl rfl hn hi (by simpa using hl2) (by simpa using hne) (by rw [hvx]; exact hrow) hlen hat (fun k hk => .inr ⟨_, List.mem_cons_self .., .of (by rw [← hvx]; exact hk)⟩)
              exact this
          · cases hra
        · exact hg.elim
      · exact hg.elim
    · exact hg.elim
  case cfl id' rv' q n' =>
    subst hv
    cases hcc : (id' == id && (rv' == r && dt.isNone)) <;> rw [hcc] at hg
    · exact hg.elim
    · simp only [Bool.and_eq_true, beq_iff_eq] at hcc
      obtain ⟨rfl, rfl, hdt⟩ := hcc
      have hdt : dt = none := by simpa using hdt
      subst hdt
      obtain ⟨hiq, rfl, rfl⟩ := hg
      subst hiq
      have hbox := h.box id'
      rw [hl] at hbox
      obtain ⟨te, e', te', vs, cs, flat, hn⟩ := hbox
      have hxe : i < rows.length ∧ ∃ B m c, innerV i (β id') = .slice B m c ∧ n' ≤ m ∧ a.eval x = .slice B n' c := by
        generalize a.eval x = vx at hxv
        cases hxv with
        | cfl _ _ _ _ _ _ hok => rw [hl] at hok; exact hok.2 rfl
      obtain ⟨hi, B, m, c, hin, hnm, hvx⟩ := hxe
      have hrow := hn.row i (rows.getD i []) (get_getD hi)
      rw [← hn.inner_val i, hin] at hrow
      have hm : m = (rows.getD i []).length := by
        rcases hrow.2 with ⟨hv, h0⟩ | ⟨_, _, _, hv, _⟩
        · injection hv with _ e2 _
          omega
        · injection hv
      subst hm
      have hlen0 := hn.len _ (List.mem_of_getElem? (get_getD (d := ([] : List (List D))) hi))
      have hlt : ((rows.getD i []).take n').length = n' := by rw [List.length_take]; omega
      have := m_storeRow (L := []) (ys := (rows.getD i []).take n') (fl := (flat i).take (n' * te'.size)) h hE ho hT hp h1 hl rfl hn hi (by simp) (by simp) (by rw [hvx, hlt]; exact ownsRow_take hrow hnm) (fun x hx => hlen0 x (List.mem_of_mem_take hx))
        (fun i' x' j dd hx' hd => by
          rw [List.getElem?_take] at hx'
          split at hx'
          · rename_i hlt'
            have hj := (List.getElem?_eq_some_iff.1 hd).1
            rw [hlen0 x' (List.mem_of_getElem? hx')] at hj
            have hii : i' * te'.size + te'.size ≤ n' * te'.size := by
              rw [← Nat.succ_mul]; exact Nat.mul_le_mul_right _ hlt'
            have := hn.at_ i _ (get_getD hi) i' x' j dd hx' hd
            rw [List.getD_eq_getElem?_getD] at this ⊢
            rw [List.getElem?_take, if_pos (by omega)]
            exact this
          · cases hx') (fun k hk => .inl (by
          rw [hin]
          rw [hvx] at hk
          cases B <;> exact hk))
      exact this
  rename_i id' rv' q
  cases hcc : (id' == id && rv' == r) <;> rw [hcc] at hg
  · exact hg.elim
  · simp only [Bool.and_eq_true, beq_iff_eq] at hcc
    obtain ⟨rfl, rfl⟩ := hcc
    obtain ⟨⟨hip, hdt⟩, rfl, rfl⟩ := hg
    subst hip
    have hpv := h.ev p
    rw [hp] at hpv
    generalize hap : a.eval p = vp at hpv
    generalize hax : a.eval x = vx at hxv
    cases hpv with
    | op _ _ _ _ _ _ ho1 hop =>
      rw [hl] at hop
      obtain ⟨g, n, c, hβ, hvp⟩ := hop.2 hv.symm
      cases hxv with
      | fsl _ _ _ _ hx1 hxok =>
        rw [hl] at hxok
        obtain ⟨hil, hvx⟩ := hxok.2 rfl
        have hbox := h.box id'
        rw [hl] at hbox
        obtain ⟨te, e', te', vs, cs, flat, hn⟩ := hbox
        have hov : outerV (β id') = vs.getD 0 undef := by rw [hn.val]; rfl
        rw [hov] at hβ
        have hown := hn.outer
        rw [hβ] at hown
        have hnl : n = rows.length := by
          rcases hown.2 with ⟨hv, _⟩ | ⟨_, _, _, hv, _⟩
          · cases hv
          · injection hv
        subst hnl
        have hcells : vx.cells = #[vx] := cells_one hx1
        obtain ⟨nl, hrun, hown'⟩ := own_store hty hown (v := vx) (k := i * 1 + 0) (by rw [hcells, h1]; rfl) (by rw [hcells]; simp; omega) (by rw [hcells]; simpa using hx1)
        rw [hcells] at hown'
        simp only [List.length_cons, List.length_nil, Nat.zero_add, Nat.mul_one, Nat.add_zero] at hown'
        have hblk : blk (vs.getD 0 undef) = some g := by rw [hβ]; rfl
        have hBlk : Blk (β id') g := by rw [hn.val]; exact ⟨0, hblk⟩
        have hch : Changed X s w β id' (.nest e v0 rv' none rows) (β id') (w.setRow g nl.toArray) :=
          set_changed h (by rw [hl]; rfl) hBlk (by
            rw [hl]
            exact .inl ⟨e, v0, rv', none, rows, rfl, Nat.le_refl _, fun _ => rfl, Nat.le_refl _, fun _ => ⟨rfl, rfl, fun _ _ hh => hh⟩⟩)
        have hinv := h.upd hch ⟨te, e', te', vs, _, flat, { hn with
          val := by rw [upd1_same]; exact hn.val
          outer := by rw [hβ]; exact hown'
          row := fun p r hp => ownsRow_heap (hn.row p r hp) fun k hk => nest_heap hn 0 hblk nl (p + 1) k (by omega) hk
          at_ := fun p r hp i x j d hx hd => (hn.at_ p r hp i x j d hx hd).keep hch.kept
          cell := fun p hpl _ => by
            have hcl : cs.length = rows.length := by have := hn.outer.1; omega
            rw [List.getD_eq_getElem?_getD]
            have hs1 := splice_at cs [vx] i p (by simp; omega)
            simp only [List.length_cons, List.length_nil, Nat.zero_add] at hs1
            have e0 : (cs.take i ++ ([vx] ++ cs.drop (i + 1)))[p]? = _ := hs1
            have e1 : (cs.take i ++ (#[vx].toList ++ cs.drop (i + 1)))[p]? = (cs.take i ++ ([vx] ++ cs.drop (i + 1)))[p]? := rfl
            by_cases hpi : p = i
            · subst hpi
              rw [e1, e0, if_neg (by omega), if_pos (by omega), Nat.sub_self]
              simp only [List.getElem?_cons_zero, Option.getD_some]
              rw [hvx, hn.inner_val p]
            · have hold : cs.getD p undef = vs.getD (p + 1) undef := hn.cell p hpl (by
                cases dt with
                | none => simp
                | some q =>
                  intro e
                  injection e with e
                  have : q = i := hdt
                  exact hpi (by rw [← e]; exact this))
              rw [e1, e0]
              rcases Nat.lt_or_gt_of_ne hpi with hlt | hgt
              · rw [if_pos hlt, ← List.getD_eq_getElem?_getD]; exact hold
              · rw [if_neg (by omega), if_neg (by omega), ← List.getD_eq_getElem?_getD]; exact hold
          own := by rw [upd1_same]; exact hn.own }⟩
        subst hvp
        exact ⟨_, undef, _, _, exec_store ho (by rw [hap, hax]; exact hrun), .inr ⟨rfl, rfl⟩, hinv, .top _⟩

theorem m_storeF (h : Inv X s a w β) (hE : EnvOK X.P X.E) {t : Nat} {p x : Operand} {ti : TI} {id rv q jj sz off : Nat} (ho : o.op = .store t p x) (hT : X.E t = some ti) (hp : ev s.fr p = .fop id rv q jj sz off)
    (hg : Gets X.P X.E d bb (storeF id rv q jj off ti.size (lookB id s.bx) (toDs s.bx (ev s.fr x))) v u) : Moves X s a w o v u := by
  have hty := hE t ti hT
  unfold storeF at hg
  split at hg
  · rename_i ds u0 hds
    split at hg
    · rename_i e v' r dt rows hl
      obtain ⟨hc, hg⟩ := cond_val hg
      obtain ⟨⟨hi, hoff⟩, hg⟩ := hg
      obtain ⟨rfl, rfl⟩ := hg
      simp only [Bool.and_eq_true, beq_iff_eq] at hc
      obtain ⟨hv, hdl, hni⟩ := hc
      obtain ⟨hfz, hcells⟩ := toDs_sound h (h.ev x) hds
      have h1 := h.freezeL hfz
      have hl1 : lookB id (u0 ++ s.bx) = .nest e v' r dt rows := (lookB_notIn hni).trans hl
      have hpv := h1.ev p
      simp only [hp] at hpv
      generalize hap : a.eval p = vp at hpv
      cases hpv with
      | fop _ _ _ _ _ _ _ ho1 hop =>
        rw [hl1] at hop
        obtain ⟨hql, hszs, g, n, c, hβ, hvp⟩ := hop.2 hv.symm
        have hbox := h1.box id
        simp only [hl1] at hbox
        obtain ⟨te, e', te', vs, cs, flat, hn⟩ := hbox
        have hrq : rows[q]? = some (rows.getD q []) := get_getD hql
        have hxj := get_getD (d := []) hi
        have hxl := hn.len _ (List.mem_of_getElem? hrq) _ (List.mem_of_getElem? hxj)
        have hse : sz = te'.size := (hszs _ (List.mem_of_getElem? hxj)).symm.trans hxl
        subst hse
        subst hvp
        rw [hn.inner_val q] at hβ
        have hown := hn.row q _ hrq
        have hfl := hown.1
        rw [hβ] at hown
        have hnl : n = (rows.getD q []).length := by
          rcases hown.2 with ⟨hv, _⟩ | ⟨_, _, _, hv, _⟩
          · cases hv
          · injection hv
        subst hnl
        have hcl : (a.eval x).cells.toList.length = ds.length := by rw [Array.length_toList]; exact hcells.1
        rw [hxl] at hoff
        have hone : ∀ cc ∈ (a.eval x).cells.toList, cc.oneCell' = true := fun cc hcc => by
          obtain ⟨j, hj⟩ := List.getElem?_of_mem hcc
          have hlt := (List.getElem?_eq_some_iff.1 hj).1
          have := (hcells.2 j _ (one_getD (n := j) (by omega))).one
          have e2 : (a.eval x).cells.getD j undef = cc := by
            rw [Array.getElem?_toList] at hj
            simp [Array.getD_eq_getD_getElem?, hj]
          rw [e2] at this; exact this
        have hjj : jj * te'.size + te'.size ≤ (rows.getD q []).length * te'.size := by
          rw [← Nat.succ_mul]; exact Nat.mul_le_mul_right _ hi
        obtain ⟨nl, hrun, hown'⟩ := own_store hty hown (v := a.eval x) (k := jj * te'.size + off) (by rw [hcells.1]; exact hdl) (by rw [hcl]; omega) hone
        have hblk : blk (vs.getD (q + 1) undef) = some g := by rw [hβ]; rfl
        have hBlk : Blk (β id) g := by rw [hn.val]; exact ⟨q + 1, hblk⟩
        have hsl : (splice ((rows.getD q []).getD jj []) ds off).length = te'.size := (splice_len _ _ _ (by rw [hxl]; exact hoff)).trans hxl
        have hlen' : ∀ x ∈ (rows.getD q []).set jj (splice ((rows.getD q []).getD jj []) ds off), x.length = te'.size := fun x hx => by
          obtain ⟨i', hi'⟩ := List.getElem?_of_mem hx
          rcases set_get hi' with ⟨_, rfl⟩ | ⟨_, h3⟩
          · exact hsl
          · exact hn.len _ (List.mem_of_getElem? hrq) _ (List.mem_of_getElem? h3)
        obtain ⟨row', hrow'⟩ : ∃ row', row' = (rows.getD q []).set jj (splice ((rows.getD q []).getD jj []) ds off) := ⟨_, rfl⟩
        rw [← hrow'] at hlen' ⊢
        have hrl : row'.length = (rows.getD q []).length := by rw [hrow', List.length_set]
        have hget : ∀ (p : Nat) r', (rows.set q row')[p]? = some r' → (p = q ∧ r' = row') ∨ (p ≠ q ∧ rows[p]? = some r') := fun p r' hpr => by
          rcases set_get hpr with ⟨h3, h4⟩ | ⟨h3, h4⟩
          · exact .inl ⟨h3.symm, h4⟩
          · exact .inr ⟨fun e => h3 e.symm, h4⟩
        have hch : Changed X ⟨s.fr, u0 ++ s.bx⟩ w β id (.nest e v' r dt (rows.set q row')) (β id) (w.setRow g nl.toArray) :=
          set_changed h1 (by rw [hl1]; rfl) hBlk (by
            rw [hl1]
            refine .inl ⟨e, v', r, dt, _, rfl, Nat.le_refl _, fun _ => rfl, Nat.le_refl _, fun _ => ⟨List.length_set .., rfl, fun p sz hsz x hx => ?_⟩⟩
            by_cases hpq : p = q
            · subst hpq
              have e1 : (rows.set p row').getD p [] = row' := by simp [List.getD, hql]
              rw [e1] at hx
              rw [hlen' x hx, ← hxl]
              exact hsz _ (List.mem_of_getElem? hxj)
            · have e1 : (rows.set q row').getD p [] = rows.getD p [] := by
                simp only [List.getD_eq_getElem?_getD]
                rw [List.getElem?_set_ne fun e => hpq e.symm]
              rw [e1] at hx
              exact hsz x hx)
        have hinv := h1.upd hch ⟨te, e', te', vs, cs, fun p => if p = q then (flat q).take (jj * te'.size + off) ++ ((a.eval x).cells.toList ++ (flat q).drop (jj * te'.size + off + (a.eval x).cells.toList.length)) else flat p, { hn with
          val := by rw [upd1_same]; exact hn.val
          size := by rw [List.length_set]; exact hn.size
          len := fun r' hr' => by
            obtain ⟨p, hpp⟩ := List.getElem?_of_mem hr'
            rcases hget p r' hpp with ⟨_, rfl⟩ | ⟨_, h3⟩
            · exact hlen'
            · exact hn.len r' (List.mem_of_getElem? h3)
          outer := by rw [List.length_set]; exact ownsRow_heap hn.outer fun k hk => nest_heap hn (q + 1) hblk nl 0 k (by omega) hk
          row := fun p r' hpr => by
            rcases hget p r' hpr with ⟨rfl, rfl⟩ | ⟨hne, h3⟩
            · rw [if_pos rfl, hrl, hβ]; exact hown'
            · rw [if_neg hne]
              exact ownsRow_heap (hn.row p r' h3) fun k hk => nest_heap hn (q + 1) hblk nl (p + 1) k (by omega) hk
          at_ := fun p r' hpr i' x' j' d' hx' hd' => by
            rcases hget p r' hpr with ⟨rfl, rfl⟩ | ⟨hne, h3⟩
            · rw [if_pos rfl]
              rw [hrow'] at hx'
              exact splice_rp (hn.len _ (List.mem_of_getElem? hrq)) hfl (fun i x j d hx hd => (hn.at_ p _ hrq i x j d hx hd).keep hch.kept) hi hoff hcl (fun j d hj => by
                have e3 : (a.eval x).cells.toList.getD j undef = (a.eval x).cells.getD j undef := by
                  simp [Array.getD_eq_getD_getElem?, List.getD_eq_getElem?_getD]
                rw [e3]
                exact (hcells.2 j d hj).keep hch.kept) i' x' j' d' hx' hd'
            · rw [if_neg hne]
              exact (hn.at_ p r' h3 i' x' j' d' hx' hd').keep hch.kept
          cell := fun p hpl hdt => hn.cell p (by rw [List.length_set] at hpl; exact hpl) hdt
          own := by rw [upd1_same]; exact hn.own }⟩
        exact ⟨_, undef, _, _, exec_store ho (by rw [hap]; exact hrun), .inr ⟨rfl, rfl⟩, hinv, .top _⟩
    · exact hg.elim
  · exact hg.elim

theorem m_store (h : Inv X s a w β) (hE : EnvOK X.P X.E) {t : Nat} {p x : Operand} (ho : o.op = .store t p x) (hg : Gets X.P X.E d bb (storeAV X.E s.bx (ev s.fr x) (ev s.fr p) (X.E t)) v u) : Moves X s a w o v u := by
  unfold storeAV at hg
  split at hg
  · rename_i ti hT
    unfold storeT at hg
    split at hg
    · rename_i id off hp
      obtain ⟨hok, hg⟩ := cond_val hg
      exact m_storeB h hE ho hT hp hok hg
    · rename_i id ver i sz off hp
      unfold storeX at hg
      split at hg
      · rename_i e v' r dt rows hl
        obtain ⟨hc, hg⟩ := cond_val hg
        exact m_storeN h hE ho hT hp hl hc hg
      · rename_i e v' xs hl
        rw [← hl] at hg
        exact m_storeO h hE ho hT hp hg
      · exact hg.elim
    · rename_i id rv q jj sz off hp
      exact m_storeF h hE ho hT hp hg
    · exact hg.elim
  · exact hg.elim

end
end Go.Vx
end

section
set_option linter.unusedVariables false
set_option linter.unusedSimpArgs false
namespace Go.Vx
open Go Go.RowKit

section
variable {X : Ctx} {s : S} {a : Act} {w : World} {β : Nat → Value} {o : Oper} {d : Nat} {bb : Box} {v : AV} {u : Upd}

theorem blt_val {b : Builtin} {args : Array Operand} {ts : Array Nat} (ho : o.op = .call ⟨.builtin b, args, ts⟩) {ρ : Operand → Value} {P : Program} {w' : World} {r : Value} {f : Sem Value}
    (hb : ∀ c, builtin b ts o.type c (args.map ρ) = (do pure (.value (← f)))) (h : f.run P w = .ok r w') : (execOp ρ o).run P w = .ok (.value r) w' := by
  rw [exec_blt ho ρ, hb]
  simp [h]

theorem q_len (h : Inv X s a w β) (hE : EnvOK X.P X.E) {x : Operand} {t : Nat} {args : Array Operand} {ts : Array Nat} (hargs : args.toList = [x]) (hts : ts.toList = [t]) (ho : o.op = .call ⟨.builtin .len, args, ts⟩) (hg : Gets X.P X.E d bb (lenT s.bx (ev s.fr x) (X.E t)) v u) : Quiet X s a w β o v u := by
  have ha : args = #[x] := by rw [← Array.toArray_toList (xs := args), hargs]
  have ht : ts = #[t] := by rw [← Array.toArray_toList (xs := ts), hts]
  subst ha; subst ht
  have hrun : ∀ n : Nat, (Builtin.len_ #[t] o.type #[a.eval x]).run X.P w = .ok (.int .i64 n) w → (execOp a.eval o).run X.P w = .ok (.value (.int .i64 n)) w := fun n hn => blt_val ho (fun c => rfl) (by simpa using hn)
  unfold lenT at hg
  split at hg
  · rename_i ti hT
    have hty := hE t ti hT
    have hx := h.ev x
    unfold lenK at hg
    split at hg
    · rename_i e hk
      obtain ⟨hu, _⟩ := KindOK.slice hty hk
      have hgo : ∀ (A : Option Addr) (n c : Nat), a.eval x = .slice A n c → Gets X.P X.E d bb (iv (.int .i64 n)) v u → Quiet X s a w β o v u := fun A n c he hg => q_iv rfl hg (hrun n (by rw [he]; exact run_len_sl hu w A n c _))
      have hsl : ∀ ys : List (List D), Rp w (MM X (lookB · s.bx) β) (a.eval x) (.sl ys) → Gets X.P X.E d bb (iv (.int .i64 ys.length)) v u → Quiet X s a w β o v u := fun ys hr hg => by
        generalize hv : a.eval x = vx at hr
        cases hr with
        | sl A c size _ cell hc hm h0 hl hA hr => exact hgo A _ c hv hg
      unfold lenSl at hg
      split at hg
      · rename_i xs he
        rw [he] at hx
        exact hsl _ hx.to_c hg
      · rename_i he
        rw [he] at hx
        exact hgo none 0 0 (by generalize a.eval x = vx at hx; cases hx.to_c; rfl) hg
      · rename_i id ver he
        rw [he] at hx
        generalize hv : a.eval x = vx at hx
        cases hx with
        | osl _ _ _ h1 hok =>
          have hbox := h.box id
          cases hl : lookB id s.bx <;> rw [hl] at hg hok hbox <;> simp only [lenB] at hg <;> try (exact hg.elim)
          case arr e' v' xs =>
            obtain ⟨hve, hg⟩ := beq_val hg
            have hv' := hok.2 hve.symm
            obtain ⟨te, flat, _, _, _, ho', _⟩ := hbox
            rcases ho'.2 with ⟨hn, hn0⟩ | ⟨g, cap, cur, hn, _⟩
            · refine hgo none 0 0 (by rw [hv, hv', hn]) ?_
              rw [hn0] at hg
              exact hg
            · exact hgo _ _ _ (by rw [hv, hv', hn]) hg
          case frz v' xs =>
            obtain ⟨hve, hg⟩ := beq_val hg
            have hv' := hok.2 hve.symm
            refine hsl xs ?_ hg
            rw [hv, hv']; exact hbox
          case nest e' v' r dt rows =>
            obtain ⟨hve, hg⟩ := beq_val hg
            have hv' := hok.2 hve.symm
            obtain ⟨te, e2, te2, vs, cs, flat, hn⟩ := hbox
            have hov : outerV (β id) = vs.getD 0 undef := by rw [hn.val]; rfl
            rcases hn.outer.2 with ⟨hn1, hn0⟩ | ⟨g, cap, cur, hn1, _⟩
            · refine hgo none 0 0 (by rw [hv, hv', hov, hn1]) ?_
              rw [hn0] at hg
              exact hg
            · exact hgo _ _ _ (by rw [hv, hv', hov, hn1]) hg
      · rename_i id rv p he
        rw [he] at hx
        generalize hv : a.eval x = vx at hx
        cases hx with
        | fsl _ _ _ _ h1 hok =>
          have hbox := h.box id
          cases hl : lookB id s.bx <;> rw [hl] at hg hok hbox <;> simp only [lenF] at hg <;> try (exact hg.elim)
          case nest e' v' r dt rows =>
            obtain ⟨hve, hg⟩ := beq_val hg
            obtain ⟨hpl, hv'⟩ := hok.2 hve.symm
            obtain ⟨te, e2, te2, vs, cs, flat, hn⟩ := hbox
            rw [hn.inner_val p] at hv'
            rcases (hn.row p _ (get_getD hpl)).2 with ⟨hn1, hn0⟩ | ⟨g, cap, cur, hn1, _⟩
            · refine hgo none 0 0 (by rw [hv, hv', hn1]) ?_
              rw [hn0] at hg
              exact hg
            · exact hgo _ _ _ (by rw [hv, hv', hn1]) hg
      · exact hg.elim
    · rename_i hk
      obtain ⟨hu, _⟩ := KindOK.str hty hk
      unfold lenSt at hg
      split at hg
      · rename_i b he
        have hv : a.eval x = .string b := by
          rw [he] at hx
          generalize a.eval x = vx at hx
          cases hx.to_c; rfl
        refine q_iv rfl hg (hrun b.size ?_)
        rw [hv]
        simp [Builtin.len_, run_underlying hu, goInt]
      · exact hg.elim
    · rename_i kt et hk
      have hu := (KindOK.map hty hk).1
      unfold lenM at hg
      split at hg
      · rename_i id he
        rw [he] at hx
        generalize hv : a.eval x = vx at hx
        cases hx with
        | mp _ g kt' et' es hl hb =>
          have hbox := h.box id
          have hl : lookB id s.bx = .map kt' et' es := hl
          rw [hl] at hbox hg
          obtain ⟨g', ents, clock, e1, _, e3, e4, _⟩ := hbox
          rw [hb] at e1
          injection e1 with e1
          injection e1 with e1
          subst e1
          simp only [lenMB] at hg
          have hlen : es.length = ents.size := by rw [← e4]; simp
          rw [hlen] at hg
          refine q_iv rfl hg (hrun ents.size ?_)
          rw [hv]
          have hgo : (getObj g).run X.P w = .ok (.map ents clock) w := by simp [getObj, Sem.run, e3]
          simp [Builtin.len_, run_underlying hu, hgo, goInt]
      · exact hg.elim
    · exact hg.elim
  · exact hg.elim

theorem q_min (h : Inv X s a w β) {x y : Operand} {args : Array Operand} {ts : Array Nat} (hargs : args.toList = [x, y]) (ho : o.op = .call ⟨.builtin .min, args, ts⟩) (hg : Gets X.P X.E d bb (minR (ev s.fr x) (ev s.fr y)) v u) : Quiet X s a w β o v u := by
  have ha : args = #[x, y] := by rw [← Array.toArray_toList (xs := args), hargs]
  subst ha
  unfold minR at hg
  split at hg
  · rename_i k m k' n hx hy
    refine q_iv rfl hg (blt_val ho (fun c => rfl) ?_)
    have e1 : #[x, y].map a.eval = #[.int k m, .int k' n] := by simp [eval_sc h hx, eval_sc h hy]
    rw [e1]
    by_cases hmn : n < m <;> simp [Builtin.min_, Builtin.min2, hmn]
  · exact hg.elim

theorem q_max (h : Inv X s a w β) {x y : Operand} {args : Array Operand} {ts : Array Nat} (hargs : args.toList = [x, y]) (ho : o.op = .call ⟨.builtin .max, args, ts⟩) (hg : Gets X.P X.E d bb (maxR (ev s.fr x) (ev s.fr y)) v u) : Quiet X s a w β o v u := by
  have ha : args = #[x, y] := by rw [← Array.toArray_toList (xs := args), hargs]
  subst ha
  unfold maxR at hg
  split at hg
  · rename_i k m k' n hx hy
    refine q_iv rfl hg (blt_val ho (fun c => rfl) ?_)
    have e1 : #[x, y].map a.eval = #[.int k m, .int k' n] := by simp [eval_sc h hx, eval_sc h hy]
    rw [e1]
    by_cases hmn : m < n <;> simp [Builtin.max_, Builtin.max2, hmn]
  · exact hg.elim

/-! ### append -/
/-- a slice's elements, to be copied -/
def Src (w : World) (M : Nat → Prop) (size : Nat) (v : Value) (ys : List (List D)) : Prop :=
  ∃ (A : Option Addr) (c : Nat) (cell : Nat → Value), v = .slice A ys.length c ∧ (ys ≠ [] → ∃ ad, A = some ad ∧ ∀ j, j < ys.length * size → w.cell? (ad.add j) = some (cell j)) ∧ ∀ i y j d, ys[i]? = some y → y[j]? = some d → Rp w M (cell (i * size + j)) d

theorem Src.of_rp {M : Nat → Prop} {size : Nat} {v : Value} {ys : List (List D)} (h : Rp w M v (.sl ys)) (hl : AllLen size ys) : Src w M size v ys := by
  cases h with
  | sl A c sz _ cell hc hm h0 hsz hA hr =>
    by_cases hne : ys = []
    · subst hne
      exact ⟨A, c, fun _ => undef, rfl, fun h => (h rfl).elim, fun i y j d hy => by simp at hy⟩
    · have hs : sz = size := by
        obtain ⟨y, hy⟩ := List.exists_mem_of_ne_nil _ hne
        exact (hsz y hy).symm.trans (hl y hy)
      subst hs
      refine ⟨A, c, cell, rfl, fun hn => ?_, hr⟩
      obtain ⟨ad, e, _, hc⟩ := hA hn
      exact ⟨ad, e, hc⟩

theorem src_sound (h : Inv X s a w β) {x : Operand} {ys : List (List D)} {size : Nat} (hs : srcD s.bx (ev s.fr x) = some ys) (hl : AllLen size ys) : Src w (MM X (lookB · s.bx) β) size (a.eval x) ys := by
  have hx := h.ev x
  unfold srcD at hs
  split at hs
  · rename_i zs he
    injection hs with hs
    subst hs
    rw [he] at hx
    exact .of_rp hx.to_c hl
  · rename_i A c he
    injection hs with hs
    subst hs
    rw [he] at hx
    generalize a.eval x = vx at hx
    cases hx.to_c
    exact ⟨A, c, fun _ => undef, rfl, fun h => (h rfl).elim, fun i y j d hy => by simp at hy⟩
  · rename_i id ver he
    rw [he] at hx
    generalize a.eval x = vx at hx
    cases hx with
    | osl _ _ _ h1 hok =>
      have hbox := h.box id
      cases hlk : lookB id s.bx <;> rw [hlk] at hs hok hbox <;> simp only [srcB] at hs <;> try (cases hs; done)
      case arr e v' xs =>
        cases hve : (v' == ver) <;> rw [hve] at hs
        · cases hs
        · injection hs with hs
          subst hs
          have hv' := hok.2 (by simpa using hve : v' = ver).symm
          subst hv'
          obtain ⟨te, flat, hEe, h0, hlen, ho, _, hr⟩ := hbox
          by_cases hne : xs = []
          · subst hne
            rcases ho.2 with ⟨hn, _⟩ | ⟨g, cap, cur, hn, _⟩
            · exact ⟨none, 0, fun _ => undef, by rw [hn]; rfl, fun h => (h rfl).elim, fun i y j d hy => by simp at hy⟩
            · exact ⟨_, cap, fun _ => undef, hn, fun h => (h rfl).elim, fun i y j d hy => by simp at hy⟩
          · have hse : te.size = size := by
              obtain ⟨y, hy⟩ := List.exists_mem_of_ne_nil _ hne
              exact (hlen y hy).symm.trans (hl y hy)
            subst hse
            rcases ho.2 with ⟨_, hn⟩ | ⟨g, cap, cur, hn, _⟩
            · exact (hne (List.length_eq_zero_iff.1 hn)).elim
            · refine ⟨some ⟨g, 0, none⟩, cap, fun j => flat.getD j undef, hn, fun _ => ⟨_, rfl, fun j hj => ?_⟩, hr⟩
              rw [hn] at ho
              exact flat_cells ho j hj
      case frz v' xs =>
        cases hve : (v' == ver) <;> rw [hve] at hs
        · cases hs
        · injection hs with hs
          subst hs
          have hv' := hok.2 (by simpa using hve : v' = ver).symm
          subst hv'
          exact .of_rp hbox hl
  · cases hs

theorem run_append_none {P : Program} {t e ty : Nat} (ht : P.underlying t = some (.slice e)) {sz : Nat} (hsz : (sizeOf e).run P w = .ok sz w) (B A : Option Addr) (n cap c : Nat) (h : n ≤ cap) :
    (Builtin.append_ #[t, t] ty #[.slice B n cap, .slice A 0 c]).run P w = .ok (.slice B n cap) w := by
  cases A <;> cases B <;> simp [Builtin.append_, run_underlying ht, hsz, Builtin.lenOf, h, Builtin.firstCells, storeCells, loadCells, loadCellsFrom]

/-- append, what is appended to given as owned -/
theorem run_app {P : Program} {E : Env} {t e ty : Nat} {te : TI} (ht : P.underlying t = some (.slice e)) (hty : TyOK P E e te) (hby : 0 < te.bytes) {M : Nat → Prop} {v0 vy : Value} {xs ys : List (List D)} {flat : List Value}
    (hown : w.ownsRow 0 e te.size v0 xs.length flat) (hsrc : Src w M te.size vy ys) (hlen : AllLen te.size ys) (hn : (xs.length + ys.length) * te.bytes ≤ 140737488355328) :
    ∃ v' w' news, (Builtin.append_ #[t, t] ty #[v0, vy]).run P w = .ok v' w' ∧ w'.ownsRow 0 e te.size v' (xs ++ ys).length (flat ++ news) ∧ w.grownBy w' v0.ownBlock ∧ (v'.ownBlock = v0.ownBlock ∨ v'.ownBlock = some w.heap.size) ∧
      news.length = ys.length * te.size ∧ ∀ i y j d, ys[i]? = some y → y[j]? = some d → Rp w M (news.getD (i * te.size + j) undef) d := by
  obtain ⟨A, c, cell, rfl, hA, hr⟩ := hsrc
  by_cases hne : ys = []
  · subst hne
    have hfin : ∀ (B : Option Addr) (cap : Nat), v0 = .slice B xs.length cap → xs.length ≤ cap → (Builtin.append_ #[t, t] ty #[v0, .slice A ([] : List (List D)).length c]).run P w = .ok v0 w := fun B cap hv hc => by
      rw [hv]; exact run_append_none ht (hty.size_run w) B A _ cap c hc
    have hrun : (Builtin.append_ #[t, t] ty #[v0, .slice A ([] : List (List D)).length c]).run P w = .ok v0 w := by
      rcases hown.2 with ⟨hv, h0⟩ | ⟨g, cap, cur, hv, _, _, hc, _⟩
      · exact hfin none 0 (by rw [hv, h0]) (by omega)
      · exact hfin _ cap hv hc
    refine ⟨v0, w, [], hrun, by simpa using hown, ⟨rfl, rfl, rfl, Nat.le_refl _, fun _ _ _ => rfl⟩, .inl rfl, by simp, fun i y j d hy => by simp at hy⟩
  · obtain ⟨ad, rfl, hcell⟩ := hA hne
    obtain ⟨i, z, h1, h2, h3, h4, h5⟩ := hty.info
    have hnews : ∀ j u, ((List.range (ys.length * te.size)).map cell)[j]? = some u → w.cell? (ad.add j) = some u := fun j u hj => by
      rw [List.getElem?_map] at hj
      by_cases hlt : j < ys.length * te.size
      · rw [List.getElem?_range hlt] at hj
        simp only [Option.map_some, Option.some.injEq] at hj
        rw [← hj]; exact hcell j hlt
      · rw [List.getElem?_eq_none (by simpa using hlt)] at hj; cases hj
    have hget : ∀ k, k < ys.length * te.size → ((List.range (ys.length * te.size)).map cell).getD k undef = cell k := fun k hk => by
      simp [List.getD, hk]
    have hidx : ∀ i y j d, ys[i]? = some y → y[j]? = some d → i * te.size + j < ys.length * te.size := fun i y j d hy hd => by
      have h1 := (List.getElem?_eq_some_iff.1 hy).1
      have h2 := (List.getElem?_eq_some_iff.1 hd).1
      rw [hlen y (List.mem_of_getElem? hy)] at h2
      have h3 : i * te.size + te.size ≤ ys.length * te.size := by
        rw [← Nat.succ_mul]; exact Nat.mul_le_mul_right _ h1
      omega
    have hnm : xs.length + ys.length ≤ 140737488355328 := by
      have : (xs.length + ys.length) * 1 ≤ (xs.length + ys.length) * te.bytes := Nat.mul_le_mul_left _ hby
      omega
    obtain ⟨v', w', hrun, hown', hgr, _, hblk⟩ := run_append_own_at (P := P) w 0 t ty e i z te.size te.bytes ht h1 h4 h2 h3 (by rw [h5, List.size_toArray]; exact hty.zero.1) hty.pos v0 xs.length flat hown ad ys.length c
      ((List.range (ys.length * te.size)).map cell) (by simp) hnews (fun u hu => by
        obtain ⟨k, hk⟩ := List.getElem?_of_mem hu
        have hklt : k < ys.length * te.size := by simpa using (List.getElem?_eq_some_iff.1 hk).1
        have hkd := Nat.div_add_mod k te.size
        have hp := hty.pos
        have hml := Nat.mod_lt k hp
        have hdl : k / te.size < ys.length := Nat.div_lt_of_lt_mul (by rw [Nat.mul_comm]; exact hklt)
        have hy : ys[k / te.size]? = some ys[k / te.size] := List.getElem?_eq_getElem hdl
        have hyl := hlen _ (List.mem_of_getElem? hy)
        have hd := one_getD (l := ys[k / te.size]) (n := k % te.size) (by omega)
        have := (hr _ _ _ _ hy hd).one
        have e1 : k / te.size * te.size + k % te.size = k := by rw [Nat.mul_comm]; exact hkd
        rw [e1] at this
        have e2 : u = cell k := by
          rw [List.getElem?_map, List.getElem?_range hklt] at hk
          simpa using hk.symm
        rw [e2]; exact this) (by simp only [maxLen]; omega) hn (Nat.zero_le _)
    refine ⟨v', w', _, hrun, by rw [List.length_append]; exact hown', hgr, hblk, by simp, fun i y j d hy hd => ?_⟩
    rw [hget _ (hidx i y j d hy hd)]
    exact hr i y j d hy hd

theorem own_blk {e size n b : Nat} {v : Value} {xs : List Value} (h : w.ownsRow b e size v n xs) : v.ownBlock = blk v ∧ v.oneCell' = true := by
  rcases h.2 with ⟨rfl, _⟩ | ⟨g, cap, cur, rfl, _⟩ <;> exact ⟨rfl, rfl⟩

/-- an owned slice, or none yet, has grown -/
theorem grow_inv (h : Inv X s a w β) {id e ver : Nat} {te : TI} {xs ys : List (List D)} {flat news : List Value} {v0 v' : Value} {w' : World} (hEe : X.E e = some te) (h0 : 0 < te.size) (hlx : ∀ x ∈ xs, x.length = te.size) (hly : AllLen te.size ys)
    (hb : (lookB id s.bx = .dead ∧ v0.ownBlock = none) ∨ (∃ v1 xs1, lookB id s.bx = .arr e v1 xs1 ∧ v1 < ver ∧ β id = v0)) (hfl : flat.length = xs.length * te.size)
    (hr : ∀ i x j d, xs[i]? = some x → x[j]? = some d → Rp w (MM X (lookB · s.bx) β) (flat.getD (i * te.size + j) undef) d)
    (hown : w'.ownsRow 0 e te.size v' (xs ++ ys).length (flat ++ news)) (hgr : w.grownBy w' v0.ownBlock) (hblk : v'.ownBlock = v0.ownBlock ∨ v'.ownBlock = some w.heap.size)
    (hrn : ∀ i y j d, ys[i]? = some y → y[j]? = some d → Rp w (MM X (lookB · s.bx) β) (news.getD (i * te.size + j) undef) d) (hv0 : v0.ownBlock = blk v0) :
    Inv X ⟨s.fr, (id, .arr e ver (xs ++ ys)) :: s.bx⟩ a w' (upd1 β id v') ∧ RV w' (MM X (lookB · ((id, .arr e ver (xs ++ ys)) :: s.bx)) (upd1 β id v')) (upd1 β id v') (lookB · ((id, .arr e ver (xs ++ ys)) :: s.bx)) v' (.osl id ver) := by
  obtain ⟨hvb, hv1⟩ := own_blk hown
  have hownk : ∀ k, Blk v' k → (w.heap.size ≤ k ∨ (live (lookB id s.bx) = true ∧ Blk (β id) k)) ∧ X.own k := fun k hk => by
    have hk := Blk.slice hown hk
    rw [← hvb] at hk
    rcases hblk with hbk | hbk
    · rcases hb with ⟨_, hn⟩ | ⟨v1, xs1, hl, _, hβ⟩
      · rw [hbk, hn] at hk; cases hk
      · have hbk' : Blk (β id) k := .of (by rw [hβ, ← hv0, ← hbk]; exact hk)
        have hlv : live (lookB id s.bx) = true := by rw [hl]; rfl
        exact ⟨.inr ⟨hlv, hbk'⟩, ((h.box id).lt hlv hbk').2⟩
    · rw [hbk] at hk
      injection hk with hk
      subst hk
      exact ⟨.inl (Nat.le_refl _), .inl h.keep.size⟩
  have hch : Changed X s w β id (.arr e ver (xs ++ ys)) v' w' := by
    refine ⟨hgr.os, hgr.tape, hgr.output, hgr.size, fun k hk hn => hgr.block k hk fun he => ?_, fun k _ hk => hownk k hk, ?_⟩
    · rcases hb with ⟨_, hn'⟩ | ⟨v1, xs1, hl, _, hβ⟩
      · rw [hn'] at he; cases he
      · exact hn ⟨by rw [hl]; rfl, .of (by rw [hβ, ← hv0]; exact he.symm)⟩
    · rcases hb with ⟨hl, _⟩ | ⟨v1, xs1, hl, hlt, _⟩
      · rw [hl]; trivial
      · rw [hl]; exact .inl ⟨e, ver, _, rfl, by omega, fun he => by omega⟩
  refine ⟨h.upd hch ⟨te, flat ++ news, hEe, h0, fun x hx => ?_, by rw [upd1_same]; exact hown, fun k hk => ?_, fun i x j dd hx hd => ?_⟩, .osl _ _ _ hv1 ?_⟩
  · rcases List.mem_append.1 hx with hx | hx
    · exact hlx x hx
    · exact hly x hx
  · rw [upd1_same] at hk; exact (hownk k hk).2
  · by_cases hi : i < xs.length
    · rw [List.getElem?_append_left hi] at hx
      have hj := (List.getElem?_eq_some_iff.1 hd).1
      rw [hlx x (List.mem_of_getElem? hx)] at hj
      have hii : i * te.size + te.size ≤ xs.length * te.size := by
        rw [← Nat.succ_mul]; exact Nat.mul_le_mul_right _ hi
      have e1 : (flat ++ news).getD (i * te.size + j) undef = flat.getD (i * te.size + j) undef := by
        rw [List.getD_eq_getElem?_getD, List.getElem?_append_left (by omega), List.getD_eq_getElem?_getD]
      rw [e1]
      exact (hr i x j dd hx hd).keep hch.kept
    · rw [List.getElem?_append_right (by omega)] at hx
      have hii : xs.length * te.size ≤ i * te.size := Nat.mul_le_mul_right _ (by omega)
      have e1 : (flat ++ news).getD (i * te.size + j) undef = news.getD ((i - xs.length) * te.size + j) undef := by
        rw [List.getD_eq_getElem?_getD, List.getElem?_append_right (by omega), List.getD_eq_getElem?_getD]
        congr 2
        rw [hfl, Nat.sub_mul]; omega
      rw [e1]
      exact (hrn _ x j dd hx hd).keep hch.kept
  · have e1 : lookB id ((id, Box.arr e ver (xs ++ ys)) :: s.bx) = .arr e ver (xs ++ ys) := by simp [lookB_cons]
    simp only [e1]
    exact ⟨Nat.le_refl _, fun _ => (upd1_same _ _ _).symm⟩

/-- a row has grown -/
theorem grow_nest (h : Inv X s a w β) {id e v0 r p : Nat} {te : TI} {e' : Nat} {te' : TI} {vs : Array Value} {cs : List Value} {flat : Nat → List Value} {rows : List (List (List D))} {ys : List (List D)} {news : List Value} {v' : Value} {w' : World} (hl : lookB id s.bx = .nest e v0 r none rows)
    (hn : NestOK X w (MM X (lookB · s.bx) β) e te e' te' (β id) vs cs flat none rows) (hp : p < rows.length) (hly : AllLen te'.size ys) (hown : w'.ownsRow 0 e' te'.size v' ((rows.getD p []).length + ys.length) (flat p ++ news)) (hgr : w.grownBy w' (vs.getD (p + 1) undef).ownBlock)
    (hblk : v'.ownBlock = (vs.getD (p + 1) undef).ownBlock ∨ v'.ownBlock = some w.heap.size) (hrn : ∀ i y j d, ys[i]? = some y → y[j]? = some d → Rp w (MM X (lookB · s.bx) β) (news.getD (i * te'.size + j) undef) d) :
    ∃ β', Inv X ⟨s.fr, (id, .nest e v0 (r + 1) (some p) (rows.set p (rows.getD p [] ++ ys))) :: s.bx⟩ a w' β' ∧ RV w' (MM X (lookB · ((id, .nest e v0 (r + 1) (some p) (rows.set p (rows.getD p [] ++ ys))) :: s.bx)) β') β' (lookB · ((id, .nest e v0 (r + 1) (some p) (rows.set p (rows.getD p [] ++ ys))) :: s.bx)) v' (.fsl id (r + 1) p) := by
  obtain ⟨hvb, hv1⟩ := own_blk hown
  have hrp : rows[p]? = some (rows.getD p []) := get_getD hp
  have hrow := hn.row p _ hrp
  have hv0 := (own_blk hrow).1
  have hsz := hn.size
  have hps : p + 1 < vs.size := by omega
  obtain ⟨vs', hvs'⟩ : ∃ vs', vs' = vs.setIfInBounds (p + 1) v' := ⟨_, rfl⟩
  have hat : ∀ j, vs'.getD j undef = if j = p + 1 then v' else vs.getD j undef := fun j => by
    rw [hvs']
    simp only [Array.getD_eq_getD_getElem?]
    by_cases hj : j = p + 1
    · subst hj
      rw [if_pos rfl, Array.getElem?_setIfInBounds_self_of_lt hps]; rfl
    · rw [if_neg hj, Array.getElem?_setIfInBounds_ne (fun e => hj e.symm)]
  have hBid : ∀ j k, blk (vs.getD j undef) = some k → Blk (β id) k := fun j k hk => by rw [hn.val]; exact ⟨j, hk⟩
  have hlv : live (lookB id s.bx) = true := by rw [hl]; rfl
  have hlt : ∀ j k, blk (vs.getD j undef) = some k → k < w.heap.size ∧ X.own k := fun j k hk => (h.box id).lt hlv (hBid j k hk)
  have hvk : ∀ k, blk v' = some k → (w.heap.size = k ∨ blk (vs.getD (p + 1) undef) = some k) := fun k hk => by
    rw [← hvb] at hk
    rcases hblk with hbk | hbk
    · rw [hbk, hv0] at hk; exact .inr hk
    · rw [hbk] at hk
      injection hk with hk
      exact .inl hk
  have hownk : ∀ k, Blk (.tuple vs') k → (w.heap.size ≤ k ∨ (live (lookB id s.bx) = true ∧ Blk (β id) k)) ∧ X.own k := fun k ⟨j, hj⟩ => by
    rw [hat] at hj
    by_cases hjp : j = p + 1
    · rw [if_pos hjp] at hj
      rcases hvk k hj with rfl | hk
      · exact ⟨.inl (Nat.le_refl _), .inl h.keep.size⟩
      · exact ⟨.inr ⟨hlv, hBid _ k hk⟩, (hlt _ k hk).2⟩
    · rw [if_neg hjp] at hj
      exact ⟨.inr ⟨hlv, hBid _ k hj⟩, (hlt _ k hj).2⟩
  have hsame : ∀ j k, j ≠ p + 1 → blk (vs.getD j undef) = some k → w'.heap[k]? = w.heap[k]? := fun j k hj hk => by
    refine hgr.block k (hlt j k hk).1 fun he => ?_
    rw [hv0] at he
    exact hj (hn.apart j (p + 1) k hk he.symm)
  have hch : Changed X s w β id (.nest e v0 (r + 1) (some p) (rows.set p (rows.getD p [] ++ ys))) (.tuple vs') w' := by
    refine ⟨hgr.os, hgr.tape, hgr.output, hgr.size, fun k hk hne => hgr.block k hk fun he => ?_, fun k _ hk => hownk k hk, ?_⟩
    · rw [hv0] at he
      exact hne ⟨hlv, hBid _ k he.symm⟩
    · rw [hl]
      refine .inl ⟨e, v0, r + 1, some p, _, rfl, Nat.le_refl _, fun _ => ?_, by omega, fun he => by omega⟩
      rw [hn.val]
      show vs'.getD 0 undef = vs.getD 0 undef
      rw [hat, if_neg (by omega)]
  have hget : ∀ (q : Nat) r', (rows.set p (rows.getD p [] ++ ys))[q]? = some r' → (q = p ∧ r' = rows.getD p [] ++ ys) ∨ (q ≠ p ∧ rows[q]? = some r') := fun q r' hq => by
    rw [List.getElem?_set] at hq
    by_cases hqp : p = q
    · subst hqp
      rw [if_pos rfl, if_pos hp] at hq
      injection hq with hq
      exact .inl ⟨rfl, hq.symm⟩
    · rw [if_neg hqp] at hq
      exact .inr ⟨fun e => hqp e.symm, hq⟩
  have hlen0 := hn.len _ (List.mem_of_getElem? hrp)
  have hinv := h.upd hch ⟨te, e', te', vs', cs, fun q => if q = p then flat p ++ news else flat q, {
    ty := hn.ty, one := hn.one, kind := hn.kind, ty' := hn.ty', pos := hn.pos
    len := fun r' hr' => by
      obtain ⟨q, hq⟩ := List.getElem?_of_mem hr'
      rcases hget q r' hq with ⟨_, rfl⟩ | ⟨_, h3⟩
      · intro x hx
        rcases List.mem_append.1 hx with hx | hx
        · exact hlen0 x hx
        · exact hly x hx
      · exact hn.len r' (List.mem_of_getElem? h3)
    val := upd1_same ..
    size := by rw [hvs', Array.size_setIfInBounds, List.length_set]; exact hsz
    outer := by
      rw [hat, if_neg (by omega), List.length_set]
      exact ownsRow_heap hn.outer fun k hk => hsame 0 k (by omega) hk
    row := fun q r' hq => by
      rcases hget q r' hq with ⟨rfl, rfl⟩ | ⟨hne, h3⟩
      · rw [hat, if_pos rfl, if_pos rfl, List.length_append]; exact hown
      · rw [hat, if_neg (by omega), if_neg hne]
        exact ownsRow_heap (hn.row q r' h3) fun k hk => hsame (q + 1) k (by omega) hk
    at_ := fun q r' hq i x j d hx hd => by
      rcases hget q r' hq with ⟨rfl, rfl⟩ | ⟨hne, h3⟩
      · rw [if_pos rfl]
        have hfl := hrow.1
        by_cases hi : i < (rows.getD q []).length
        · rw [List.getElem?_append_left hi] at hx
          have hj := (List.getElem?_eq_some_iff.1 hd).1
          rw [hlen0 x (List.mem_of_getElem? hx)] at hj
          have hii : i * te'.size + te'.size ≤ (rows.getD q []).length * te'.size := by
            rw [← Nat.succ_mul]; exact Nat.mul_le_mul_right _ hi
          have e1 : (flat q ++ news).getD (i * te'.size + j) undef = (flat q).getD (i * te'.size + j) undef := by
            rw [List.getD_eq_getElem?_getD, List.getElem?_append_left (by omega), List.getD_eq_getElem?_getD]
          rw [e1]
          exact (hn.at_ q _ hrp i x j d hx hd).keep hch.kept
        · rw [List.getElem?_append_right (by omega)] at hx
          have hii : (rows.getD q []).length * te'.size ≤ i * te'.size := Nat.mul_le_mul_right _ (by omega)
          have e1 : (flat q ++ news).getD (i * te'.size + j) undef = news.getD ((i - (rows.getD q []).length) * te'.size + j) undef := by
            rw [List.getD_eq_getElem?_getD, List.getElem?_append_right (by omega), List.getD_eq_getElem?_getD]
            congr 2
            rw [hfl, Nat.sub_mul]; omega
          rw [e1]
          exact (hrn _ x j d hx hd).keep hch.kept
      · rw [if_neg hne]
        exact (hn.at_ q r' h3 i x j d hx hd).keep hch.kept
    cell := fun q hq hdt => by
      rw [List.length_set] at hq
      have hqp : q ≠ p := fun e => hdt (by rw [e])
      rw [hat, if_neg (by omega)]
      exact hn.cell q hq (by simp)
    apart := fun i j k hi hj => by
      rw [hat] at hi hj
      by_cases h1 : i = p + 1 <;> by_cases h2 : j = p + 1
      · rw [h1, h2]
      · rw [if_pos h1] at hi
        rw [if_neg h2] at hj
        rcases hvk k hi with rfl | hk
        · have := (hlt j _ hj).1; omega
        · rw [h1]; exact hn.apart _ _ k hk hj
      · rw [if_neg h1] at hi
        rw [if_pos h2] at hj
        rcases hvk k hj with rfl | hk
        · have := (hlt i _ hi).1; omega
        · rw [h2]; exact hn.apart _ _ k hi hk
      · rw [if_neg h1] at hi
        rw [if_neg h2] at hj
        exact hn.apart i j k hi hj
    own := fun k hk => by
      rw [upd1_same] at hk
      exact (hownk k hk).2 }⟩
  refine ⟨_, hinv, .fsl _ _ _ _ hv1 ?_⟩
  have e1 : lookB id ((id, Box.nest e v0 (r + 1) (some p) (rows.set p (rows.getD p [] ++ ys))) :: s.bx) = .nest e v0 (r + 1) (some p) (rows.set p (rows.getD p [] ++ ys)) := by simp [lookB_cons]
  simp only [e1]
  refine ⟨Nat.le_refl _, fun _ => ⟨by rw [List.length_set]; exact hp, ?_⟩⟩
  rw [upd1_same]
  show v' = vs'.getD (p + 1) undef
  rw [hat, if_pos rfl]

/-- append of cells as they are -/
theorem run_appV {P : Program} {E : Env} {t e ty : Nat} {te : TI} (ht : P.underlying t = some (.slice e)) (hty : TyOK P E e te) (hone : te.size = 1) (hby : 0 < te.bytes) {v0 u0 : Value} {V U : List Value}
    (hown : w.ownsRow 0 e 1 v0 V.length V) (hU : w.ownsRow 0 e 1 u0 U.length U) (h1 : ∀ u ∈ U, u.oneCell' = true) (hn : (V.length + U.length) * te.bytes ≤ 140737488355328) :
    ∃ v' w', (Builtin.append_ #[t, t] ty #[v0, u0]).run P w = .ok v' w' ∧ w'.ownsRow 0 e 1 v' (V ++ U).length (V ++ U) ∧ w.grownBy w' v0.ownBlock ∧ (v'.ownBlock = v0.ownBlock ∨ v'.ownBlock = some w.heap.size) := by
  have hsz1 : (sizeOf e).run P w = .ok te.size w := hty.size_run w
  have h00 : ∀ (A : Option Addr) c, (Builtin.append_ #[t, t] ty #[v0, .slice A 0 c]).run P w = .ok v0 w := fun A c => by
    rcases hown.2 with ⟨hv, h0⟩ | ⟨g, cap, cur, hv, _, _, hc, _⟩
    · rw [hv]; exact run_append_none ht hsz1 none A 0 0 c (by omega)
    · rw [hv]; exact run_append_none ht hsz1 _ A _ cap c hc
  by_cases hU0 : U.length = 0
  · have hU1 : U = [] := List.length_eq_zero_iff.1 hU0
    subst hU1
    obtain ⟨A, c, hu⟩ : ∃ A c, u0 = .slice A 0 c := by
      rcases hU.2 with ⟨hv, _⟩ | ⟨g, cap, cur, hv, _⟩
      · exact ⟨_, _, hv⟩
      · exact ⟨_, _, hv⟩
    exact ⟨v0, w, by rw [hu]; exact h00 A c, by simpa using hown, ⟨rfl, rfl, rfl, Nat.le_refl _, fun _ _ _ => rfl⟩, .inl rfl⟩
  · rcases hU.2 with ⟨_, h0⟩ | ⟨g, cap, cur, hv, hrest⟩
    · exact (hU0 h0).elim
    · obtain ⟨i, z, g1, g2, g3, g4, g5⟩ := hty.info
      have hnm : V.length + U.length ≤ 140737488355328 := by
        have : (V.length + U.length) * 1 ≤ (V.length + U.length) * te.bytes := Nat.mul_le_mul_left _ hby
        omega
      have hown' : w.ownsRow 0 e te.size v0 V.length V := by rw [hone]; exact hown
      have hcells : ∀ j u, U[j]? = some u → w.cell? ((⟨g, 0, none⟩ : Addr).add j) = some u := by
        rw [hv] at hU
        exact hU.cells (g := g) rfl
      obtain ⟨v', w', hrun, hown2, hgr, _, hblk⟩ := run_append_own_at (P := P) w 0 t ty e i z te.size te.bytes ht g1 g4 g2 g3 (by rw [g5, List.size_toArray]; exact hty.zero.1) hty.pos v0 V.length V hown' ⟨g, 0, none⟩ U.length cap U (by rw [hone]; omega) hcells
        h1 (by simp only [maxLen]; omega) hn (Nat.zero_le _)
      refine ⟨v', w', by rw [hv]; exact hrun, ?_, hgr, hblk⟩
      rw [hone] at hown2
      rw [List.length_append]
      exact hown2

/-- own slices of own slices are put behind others -/
theorem app_nest (h : Inv X s a w β) {id ny e e' vn rn vy ry : Nat} {te te' : TI} {v0 u0 v' : Value} {V U : List Value} {flat fl : Nat → List Value} {rows ys : List (List (List D))} {w' : World}
    (ty : X.E e = some te) (one : te.size = 1) (kind : te.kind = .slice e') (ty' : X.E e' = some te') (pos : 0 < te'.size)
    (hnv : NV X w (MM X (lookB · s.bx) β) e e' te' v0 V flat rows) (hnu : NV X w (MM X (lookB · s.bx) β) e e' te' u0 U fl ys) (hne : id ≠ ny) (hly : lookB ny s.bx = .nest e vy ry none ys) (hβy : β ny = .tuple (u0 :: U).toArray)
    (hid : (lookB id s.bx = .dead ∧ v0 = .slice none 0 0 ∧ V = []) ∨ (∃ v1 r1, lookB id s.bx = .nest e v1 r1 none rows ∧ v1 < vn ∧ r1 < rn ∧ β id = .tuple (v0 :: V).toArray))
    (hown : w'.ownsRow 0 e 1 v' (V ++ U).length (V ++ U)) (hgr : w.grownBy w' v0.ownBlock) (hblk : v'.ownBlock = v0.ownBlock ∨ v'.ownBlock = some w.heap.size) :
    ∃ β', Inv X ⟨s.fr, [(id, .nest e vn rn none (rows ++ ys)), (ny, .nest e (vy + 1) (ry + 1) none [])] ++ s.bx⟩ a w' β' ∧ RV w' (MM X (lookB · ([(id, .nest e vn rn none (rows ++ ys)), (ny, .nest e (vy + 1) (ry + 1) none [])] ++ s.bx)) β') β' (lookB · ([(id, .nest e vn rn none (rows ++ ys)), (ny, .nest e (vy + 1) (ry + 1) none [])] ++ s.bx)) v' (.osl id vn) := by
  obtain ⟨hvb, hv1⟩ := own_blk hown
  have hv0b : v0.ownBlock = blk v0 := (own_blk hnv.outer).1
  rw [hvb, hv0b] at hblk
  rw [hv0b] at hgr
  have hlivey : live (lookB ny s.bx) = true := by rw [hly]; rfl
  have hbU : ∀ k, (blk u0 = some k ∨ ∃ p, blk (U.getD p undef) = some k) → Blk (β ny) k := fun k hk => by rw [hβy]; exact blk_tuple.2 hk
  have hbV : ∀ k, (blk v0 = some k ∨ ∃ p, blk (V.getD p undef) = some k) → live (lookB id s.bx) = true ∧ Blk (β id) k := fun k hk => by
    rcases hid with ⟨_, h1, h2⟩ | ⟨v1, r1, h1, _, _, h4⟩
    · subst h1; subst h2
      rcases hk with hk | ⟨p, hk⟩
      · cases hk
      · simp [blk, undef] at hk
    · exact ⟨by rw [h1]; rfl, by rw [h4]; exact blk_tuple.2 hk⟩
  have hltU : ∀ k, Blk (β ny) k → k < w.heap.size ∧ X.own k := fun k hk => (h.box ny).lt hlivey hk
  have hltV : ∀ k, live (lookB id s.bx) = true ∧ Blk (β id) k → k < w.heap.size ∧ X.own k := fun k hk => (h.box id).lt hk.1 hk.2
  have hvk : ∀ k, blk v' = some k → k = w.heap.size ∨ blk v0 = some k := fun k hk => by
    rcases hblk with h1 | h1
    · rw [h1] at hk; exact .inr hk
    · rw [h1] at hk; injection hk with hk; exact .inl hk.symm
  have hkeep : ∀ k, k < w.heap.size → blk v0 ≠ some k → w'.heap[k]? = w.heap[k]? := fun k hk hne => hgr.block k hk fun e => hne e.symm
  have hUat : ∀ p, (V ++ U).getD p undef = if p < rows.length then V.getD p undef else U.getD (p - rows.length) undef := fun p => by
    rw [List.getD_eq_getElem?_getD]
    by_cases hp : p < rows.length
    · rw [if_pos hp, List.getElem?_append_left (by rw [hnv.vlen]; exact hp), List.getD_eq_getElem?_getD]
    · rw [if_neg hp, List.getElem?_append_right (by rw [hnv.vlen]; omega), List.getD_eq_getElem?_getD, hnv.vlen]
  have hdis : ∀ k, (live (lookB id s.bx) = true ∧ Blk (β id) k) → Blk (β ny) k → False := fun k h1 h2 => hne (h.inj id ny k h1.1 hlivey h1.2 h2)
  have hnewb : ∀ k, Blk (.tuple (v' :: (V ++ U)).toArray) k → (w.heap.size ≤ k ∨ (live (lookB id s.bx) = true ∧ Blk (β id) k) ∨ ∃ q ∈ [(ny, (Box.nest e (vy + 1) (ry + 1) none [], Value.tuple [Value.slice none 0 0].toArray))], Blk (β q.1) k) ∧ X.own k := fun k hk => by
    rcases blk_tuple.1 hk with hk | ⟨p, hk⟩
    · rcases hvk k hk with rfl | hk
      · exact ⟨.inl (Nat.le_refl _), .inl h.keep.size⟩
      · exact ⟨.inr (.inl (hbV k (.inl hk))), (hltV k (hbV k (.inl hk))).2⟩
    · rw [hUat] at hk
      split at hk
      · exact ⟨.inr (.inl (hbV k (.inr ⟨_, hk⟩))), (hltV k (hbV k (.inr ⟨_, hk⟩))).2⟩
      · exact ⟨.inr (.inr ⟨_, List.mem_singleton.2 rfl, hbU k (.inr ⟨_, hk⟩)⟩), (hltU k (hbU k (.inr ⟨_, hk⟩))).2⟩
  have hlenVU : (V ++ U).length = (rows ++ ys).length := by simp [hnv.vlen, hnu.vlen]
  obtain ⟨β', hβ', hinv⟩ := h.swallowG (w' := w') (id := id) (b1 := .nest e vn rn none (rows ++ ys)) (v1 := .tuple (v' :: (V ++ U)).toArray) (goneN_ok ty one kind ty' pos hly) (fun q hq => by rw [List.mem_singleton.1 hq]; exact fun e => hne e.symm) hgr.os hgr.tape hgr.output hgr.size
    (fun k hk hnk => hkeep k hk fun e => hnk (hbV k (.inl e))) (fun _ => hnewb) (by
      rcases hid with ⟨h1, _⟩ | ⟨v1, r1, h1, h2, h3, _⟩
      · rw [h1]; trivial
      · rw [h1]; exact .inl ⟨e, vn, rn, none, _, rfl, by omega, fun he => by omega, by omega, fun he => by omega⟩)
    (fun β' M' hβ' hkept hM' => by
      refine ⟨te, e', te', _, _, _, hβ' ▸ (NV.append hnv hnu hkept (by rw [← hlenVU]; exact hown) (fun p k hk => ?_) (fun p k hk => ⟨fun h2 => ?_, fun h2 => ?_⟩) (fun p q k h1 h2 => ?_)).nest ty one kind ty' pos fun k hk => (hnewb k hk).2⟩
      · rcases hk with hk | hk
        · exact hkeep k (hltV k (hbV k (.inr ⟨p, hk⟩))).1 fun e => hnv.apartO p k e hk
        · exact hkeep k (hltU k (hbU k (.inr ⟨p, hk⟩))).1 fun e => hdis k (hbV k (.inl e)) (hbU k (.inr ⟨p, hk⟩))
      · rcases hvk k hk with rfl | hk
        · have := (hltV _ (hbV _ (.inr ⟨p, h2⟩))).1; omega
        · exact hnv.apartO p k hk h2
      · rcases hvk k hk with rfl | hk
        · have := (hltU _ (hbU _ (.inr ⟨p, h2⟩))).1; omega
        · exact hdis k (hbV k (.inl hk)) (hbU k (.inr ⟨p, h2⟩))
      · exact hdis k (hbV k (.inr ⟨p, h1⟩)) (hbU k (.inr ⟨q, h2⟩)))
  refine ⟨β', hinv, .osl _ _ _ hv1 ?_⟩
  have e1 : lookB id ([(id, Box.nest e vn rn none (rows ++ ys)), (ny, .nest e (vy + 1) (ry + 1) none [])] ++ s.bx) = .nest e vn rn none (rows ++ ys) := by simp [lookB_cons]
  simp only [e1]
  refine ⟨Nat.le_refl _, fun _ => ?_⟩
  rw [hβ']
  show v' = (v' :: (V ++ U)).toArray.getD 0 undef
  rw [getD_cons_arr]; rfl

theorem m_appendN (h : Inv X s a w β) (hE : EnvOK X.P X.E) {x y : Operand} {t e ny vy ry : Nat} {te : TI} {ys : List (List (List D))} (hu : X.P.underlying t = some (.slice e)) (hEe : X.E e = some te) (hby : 0 < te.bytes)
    (hrun : ∀ v' w', (Builtin.append_ #[t, t] o.type #[a.eval x, a.eval y]).run X.P w = .ok v' w' → (execOp a.eval o).run X.P w = .ok (.value v') w') (hy : nestA s.bx (ev s.fr y) = some (ny, (e, (vy, (ry, ys)))))
    (hg : Gets X.P X.E d bb (appNX s.bx te.bytes d e ny vy ry ys (ev s.fr x)) v u) : Moves X s a w o v u := by
  have hte := hE e te hEe
  obtain ⟨hyv, hly⟩ : ev s.fr y = .osl ny vy ∧ lookB ny s.bx = .nest e vy ry none ys := by
    unfold nestA at hy
    split at hy
    · rename_i id ver he
      unfold nestB at hy
      split at hy
      · rename_i e1 v1 r1 rows1 hl
        cases hc : (v1 == ver) <;> rw [hc] at hy
        · cases hy
        · simp only [cond_true, Option.some.injEq, Prod.mk.injEq] at hy
          obtain ⟨rfl, rfl, rfl, rfl, rfl⟩ := hy
          have : v1 = ver := by simpa using hc
          subst this
          exact ⟨he, hl⟩
      · cases hy
    · cases hy
  have hboxy := h.box ny
  rw [hly] at hboxy
  obtain ⟨te1, e', te', vs, cs, fl0, hny⟩ := hboxy
  have hti : te1 = te := by
    have := hny.ty
    rw [hEe] at this
    injection this with this
    exact this.symm
  subst hti
  obtain ⟨u0, U, hβy, hnu⟩ := hny.nv
  have hyval : a.eval y = u0 := by
    have := h.ev y
    rw [hyv] at this
    generalize a.eval y = vy' at this
    cases this with
    | osl _ _ _ _ hok =>
      rw [hly] at hok
      rw [hok.2 rfl, hβy]
      show (u0 :: U).toArray.getD 0 undef = _
      rw [getD_cons_arr]; rfl
  have hU1 : ∀ u ∈ U, u.oneCell' = true := fun u hu => by
    obtain ⟨p, hp⟩ := List.getElem?_of_mem hu
    have hlt : p < ys.length := by rw [← hnu.vlen]; exact (List.getElem?_eq_some_iff.1 hp).1
    have := own_one (hnu.row p _ (List.getElem?_eq_getElem hlt))
    rwa [List.getD_eq_getElem?_getD, hp] at this
  have hou := hnu.outer
  rw [← hnu.vlen] at hou
  unfold appNX at hg
  split at hg
  · rename_i hx
    unfold appNN at hg
    obtain ⟨hd, hg⟩ := dead_of hg
    cases hc : (d == ny) <;> rw [hc] at hg
    · obtain ⟨hn, rfl, rfl⟩ := hg
      have hxv : a.eval x = .slice none 0 0 := by
        have := h.ev x
        rw [hx] at this
        generalize a.eval x = vx at this
        cases this.to_c; rfl
      have hnil := nv_nil X w (MM X (lookB · s.bx) β) e e' te'
      obtain ⟨v', w', hr, hown, hgr, hblk⟩ := run_appV (ty := o.type) hu hte hny.one hby (V := []) hnil.outer hou hU1 (by rw [List.length_nil, Nat.zero_add, hnu.vlen]; exact hn)
      obtain ⟨β', h1, h2⟩ := app_nest h (vn := 0) (rn := 0) hny.ty hny.one hny.kind hny.ty' hny.pos hnil hnu (by simpa using hc) hly hβy (.inl ⟨hd, rfl, rfl⟩) hown hgr hblk
      exact ⟨_, v', w', β', hrun _ _ (by rw [hxv, hyval]; exact hr), .inl rfl, h1, h2⟩
    · exact hg.elim
  · rename_i id ver hx
    unfold appNO at hg
    split at hg
    · rename_i e1 v1 r1 rows hl
      obtain ⟨hc, hg⟩ := cond_val hg
      simp only [Bool.and_eq_true, beq_iff_eq, Bool.not_eq_true', beq_eq_false_iff_ne] at hc
      obtain ⟨rfl, rfl, hne⟩ := hc
      obtain ⟨hn, rfl, rfl⟩ := hg
      have hbox := h.box id
      rw [hl] at hbox
      obtain ⟨te2, e2, te3, vs2, cs2, fl2, hnx⟩ := hbox
      have hti2 : te2 = te1 := by
        have := hnx.ty
        rw [hEe] at this
        injection this with this
        exact this.symm
      subst hti2
      have he2 : e2 = e' := by
        have := hnx.kind
        rw [hny.kind] at this
        injection this with this
        exact this.symm
      subst he2
      have ht3 : te3 = te' := by
        have := hnx.ty'
        rw [hny.ty'] at this
        injection this with this
        exact this.symm
      subst ht3
      obtain ⟨v0, V, hβx, hnv⟩ := hnx.nv
      have hxv : a.eval x = v0 := by
        have := h.ev x
        rw [hx] at this
        generalize a.eval x = vx at this
        cases this with
        | osl _ _ _ _ hok =>
          rw [hl] at hok
          rw [hok.2 rfl, hβx]
          show (v0 :: V).toArray.getD 0 undef = _
          rw [getD_cons_arr]; rfl
      have hov := hnv.outer
      rw [← hnv.vlen] at hov
      obtain ⟨v', w', hr, hown, hgr, hblk⟩ := run_appV (ty := o.type) hu hte hny.one hby hov hou hU1 (by rw [hnv.vlen, hnu.vlen]; exact hn)
      obtain ⟨β', h1, h2⟩ := app_nest h (vn := v1 + 1) (rn := r1 + 1) hny.ty hny.one hny.kind hny.ty' hny.pos hnv hnu hne hly hβy (.inr ⟨v1, r1, hl, by omega, by omega, hβx⟩) hown hgr hblk
      exact ⟨_, v', w', β', hrun _ _ (by rw [hxv, hyval]; exact hr), .inl rfl, h1, h2⟩
    · exact hg.elim
  · exact hg.elim

theorem m_append (h : Inv X s a w β) (hE : EnvOK X.P X.E) {x y : Operand} {t : Nat} {args : Array Operand} {ts : Array Nat} (hargs : args.toList = [x, y]) (hts : ts.toList = [t, t]) (ho : o.op = .call ⟨.builtin .append, args, ts⟩)
    (hg : Gets X.P X.E d bb (appAV X.E s.bx d t (ev s.fr x) (ev s.fr y) (X.E t)) v u) : Moves X s a w o v u := by
  have ha : args = #[x, y] := by rw [← Array.toArray_toList (xs := args), hargs]
  have ht : ts = #[t, t] := by rw [← Array.toArray_toList (xs := ts), hts]
  subst ha; subst ht
  unfold appAV at hg
  split at hg
  · rename_i ti hT
    have hty := hE t ti hT
    unfold appK at hg
    split at hg
    · rename_i e hk
      obtain ⟨hu, _, te, hEe, h0, hby⟩ := KindOK.slice hty hk
      have hte := hE e te hEe
      rw [hEe] at hg
      simp only [appE] at hg
      have hrunN : ∀ v' w', (Builtin.append_ #[t, t] o.type #[a.eval x, a.eval y]).run X.P w = .ok v' w' → (execOp a.eval o).run X.P w = .ok (.value v') w' := fun v' w' hn => blt_val ho (fun c => rfl) (by simpa using hn)
      unfold appS at hg
      split at hg
      · rename_i ny ey vy ry ys hna
        obtain ⟨rfl, hg⟩ := beq_val hg
        exact m_appendN h hE hu hEe hby hrunN hna hg
      have hrun : ∀ v' w', (Builtin.append_ #[t, t] o.type #[a.eval x, a.eval y]).run X.P w = .ok v' w' → (execOp a.eval o).run X.P w = .ok (.value v') w' := fun v' w' hn => blt_val ho (fun c => rfl) (by simpa using hn)
      unfold appX at hg
      split at hg
      · rename_i hx
        unfold appN at hg
        obtain ⟨hd, hg⟩ := dead_of hg
        unfold appR at hg
        split at hg
        · rename_i ys hs
          obtain ⟨⟨hn, hal⟩, hg⟩ := hg
          obtain ⟨rfl, rfl⟩ := hg
          have hsrc := src_sound h hs hal
          have hxv : a.eval x = .slice none 0 0 := by
            have := h.ev x
            rw [hx] at this
            generalize a.eval x = vx at this
            cases this.to_c; rfl
          obtain ⟨v', w', news, hr, hown, hgr, hblk, _, hrn⟩ := run_app (ty := o.type) hu hte hby (World.ownsRow_nil w 0 e te.size) (xs := []) hsrc hal hn
          obtain ⟨h1, h2⟩ := grow_inv h (id := d) (ver := 1) (xs := []) (flat := []) hEe h0 (by simp) hal (.inl ⟨hd, rfl⟩) (by simp) (by simp) hown hgr hblk hrn rfl
          exact ⟨_, v', w', _, hrun _ _ (by rw [hxv]; exact hr), .inl rfl, h1, h2⟩
        · exact hg.elim
      · rename_i id ver hx
        unfold appO at hg
        split at hg
        · rename_i e' v1 xs hl
          obtain ⟨hc, hg⟩ := cond_val hg
          simp only [Bool.and_eq_true, beq_iff_eq] at hc
          obtain ⟨hve, rfl⟩ := hc
          unfold appR at hg
          split at hg
          · rename_i ys hs
            obtain ⟨⟨hn, hal⟩, hg⟩ := hg
            obtain ⟨rfl, rfl⟩ := hg
            have hsrc := src_sound h hs hal
            have hbox := h.box id
            rw [hl] at hbox
            obtain ⟨te', flat, hEe', h0', hlen, hown0, hok, hr0⟩ := hbox
            rw [hEe] at hEe'
            injection hEe' with hEe'
            subst hEe'
            have hxv : a.eval x = β id := by
              have := h.ev x
              rw [hx] at this
              generalize a.eval x = vx at this
              cases this with
              | osl _ _ _ h1 hok =>
                rw [hl] at hok
                exact hok.2 hve.symm
            obtain ⟨v', w', news, hr, hown, hgr, hblk, _, hrn⟩ := run_app (ty := o.type) hu hte hby hown0 hsrc hal hn
            obtain ⟨h1, h2⟩ := grow_inv h (id := id) (ver := ver + 1) hEe h0 hlen hal (.inr ⟨v1, xs, hl, by omega, rfl⟩) hown0.1 hr0 hown hgr hblk hrn (own_blk hown0).1
            subst hve
            exact ⟨_, v', w', _, hrun _ _ (by rw [hxv]; exact hr), .inl rfl, h1, h2⟩
          · exact hg.elim
        · exact hg.elim
      · rename_i id rv p hx
        unfold appF at hg
        split at hg
        · rename_i e' v1 r rows hl
          have hc := (cond_val hg).1
          replace hg := (cond_val hg).2
          simp only [Bool.and_eq_true, beq_iff_eq] at hc
          obtain ⟨hre, rfl⟩ := hc
          unfold appFR at hg
          split at hg
          · rename_i ys hs
            obtain ⟨⟨hn, hal⟩, hg⟩ := hg
            obtain ⟨rfl, rfl⟩ := hg
            have hsrc := src_sound h hs hal
            have hbox := h.box id
            rw [hl] at hbox
            obtain ⟨te1, e2, te2, vs, cs, flat, hnest⟩ := hbox
            have hti : te1 = ti := by
              have := hnest.ty
              rw [hT] at this
              injection this with this
              exact this.symm
            subst hti
            have he2 : e2 = e := by
              have := hnest.kind
              rw [hk] at this
              injection this with this
              exact this.symm
            subst he2
            have hte2 : te2 = te := by
              have := hnest.ty'
              rw [hEe] at this
              injection this with this
              exact this.symm
            subst hte2
            have hxv : p < rows.length ∧ a.eval x = vs.getD (p + 1) undef := by
              have := h.ev x
              rw [hx] at this
              generalize a.eval x = vx at this
              cases this with
              | fsl _ _ _ _ h1 hok =>
                rw [hl] at hok
                obtain ⟨g1, g2⟩ := hok.2 hre.symm
                exact ⟨g1, by rw [g2, hnest.inner_val p]⟩
            have hrow := hnest.row p (rows.getD p []) (get_getD hxv.1)
            obtain ⟨v', w', news, hr, hown, hgr, hblk, _, hrn⟩ := run_app (ty := o.type) hu hte hby hrow hsrc hal hn
            obtain ⟨β', h1, h2⟩ := grow_nest h hl hnest hxv.1 hal (by rw [← List.length_append]; exact hown) hgr hblk hrn
            exact ⟨_, v', w', β', hrun _ _ (by rw [hxv.2]; exact hr), .inl rfl, h1, h2⟩
          · exact hg.elim
        · exact hg.elim
      · exact hg.elim
    · exact hg.elim
  · exact hg.elim

/-! ### copy -/
theorem src_copy (h : Inv X s a w β) {y : Operand} {ys : List (List D)} (hs : srcE s.bx (ev s.fr y) = some ys) (hl : AllLen 1 ys) : Src w (MM X (lookB · s.bx) β) 1 (a.eval y) ys := by
  unfold srcE at hs
  split at hs
  · rename_i id ver lo n sz he
    have hy := h.ev y
    rw [he] at hy
    generalize a.eval y = vy at hy
    unfold srcC at hs
    split at hs
    · rename_i e v xs hlk
      cases hc : (v == ver) <;> rw [hc] at hs
      · cases hs
      · simp only [cond_true, Option.some.injEq] at hs
        have hve : v = ver := by simpa using hc
        subst hve
        cases hy with
        | csl _ _ _ _ _ _ h1 hok =>
          rw [hlk] at hok
          obtain ⟨hsz, B, m, c, A, c', hβ, hln, rfl, hpos⟩ := hok.2 rfl
          have hbox := h.box id
          rw [hlk] at hbox
          obtain ⟨te, flat, _, h0, hlen, ho, _, hr⟩ := hbox
          have hm : m = xs.length := by
            rw [hβ] at ho
            rcases ho.2 with ⟨hv, hn⟩ | ⟨_, _, _, hv, _⟩
            · injection hv with _ e2 _
              omega
            · injection hv
          subst hm
          have hysl : ys.length = n := by rw [← hs, List.length_take, List.length_drop]; omega
          have hyi : ∀ i x, ys[i]? = some x → i < n ∧ xs[lo + i]? = some x := fun i x hx => by
            have hi : i < n := by rw [← hysl]; exact (List.getElem?_eq_some_iff.1 hx).1
            rw [← hs, List.getElem?_take, if_pos hi, List.getElem?_drop] at hx
            exact ⟨hi, hx⟩
          refine ⟨A, c', fun j => flat.getD (lo * te.size + j) undef, by rw [hysl], fun hne => ?_, fun i x j d hx hd => ?_⟩
          · obtain ⟨y0, hy0⟩ := List.exists_mem_of_ne_nil _ hne
            obtain ⟨i0, hi0⟩ := List.getElem?_of_mem hy0
            obtain ⟨hi1, hi2⟩ := hyi i0 y0 hi0
            have hs1 : te.size = 1 := by rw [← hlen y0 (List.mem_of_getElem? hi2)]; exact hl y0 hy0
            have hs2 : sz = 1 := by rw [← hsz y0 (List.mem_of_getElem? hi2)]; exact hl y0 hy0
            obtain ⟨g, rfl, rfl⟩ := hpos (by omega)
            refine ⟨_, rfl, fun j hj => ?_⟩
            rw [hβ, hs1] at ho
            have := flat_cells ho (lo + j) (by rw [hysl] at hj; omega)
            rw [add_at] at this ⊢
            rw [hs1, hs2, Nat.mul_one]
            rw [Nat.zero_add] at this
            exact this
          · obtain ⟨hi, hxi⟩ := hyi i x hx
            have hs1 : te.size = 1 := by rw [← hlen x (List.mem_of_getElem? hxi)]; exact hl x (List.mem_of_getElem? hx)
            have := hr (lo + i) x j d hxi hd
            show Rp w _ (flat.getD (lo * te.size + (i * 1 + j)) undef) d
            rw [hs1] at this ⊢
            rw [show lo * 1 + (i * 1 + j) = (lo + i) * 1 + j by omega]
            exact this
    · cases hs
  · exact src_sound h hs hl

theorem own_copy {w : World} {b e g n cap : Nat} {flat : List Value} (h : w.ownsRow b e 1 (.slice (some ⟨g, 0, none⟩) n cap) n flat) {k : Nat} {cs : List Value} (hk : k + cs.length ≤ n) :
    ∃ cur : Array Value, w.heap[g]? = some (.cells cur e (0, 0)) ∧ n ≤ cur.size ∧ (w.setRow g (cur.toList.take k ++ cs ++ cur.toList.drop (k + cs.length)).toArray).ownsRow b e 1 (.slice (some ⟨g, 0, none⟩) n cap) n (flat.take k ++ (cs ++ flat.drop (k + cs.length))) := by
  have hfl := h.1
  rcases h.2 with ⟨hv, _⟩ | ⟨g', cap', cur, hv, hb, hg, hnc, hcm, hcs, ht⟩
  · cases hv
  · injection hv with e1 _ e3
    injection e1 with e1
    injection e1 with e1
    subst e1; subst e3
    have hfit : k + cs.length ≤ cur.toList.length := by rw [Array.length_toList (xs := cur), hcs]; omega
    refine ⟨cur, hg, by omega, ?_, .inr ⟨g, cap, _, rfl, hb, setRow_heap w g cur _ e (0, 0) hg, hnc, hcm, ?_, ?_⟩⟩
    · rw [splice_len _ _ _ (by rw [hfl]; omega), hfl]
    · rw [List.size_toArray, List.append_assoc, splice_len _ _ _ hfit, Array.length_toList (xs := cur), hcs]
    · refine List.ext_getElem? fun j => ?_
      rw [List.append_assoc, List.getElem?_take, splice_at cur.toList _ _ _ hfit, splice_at flat _ _ _ (by rw [hfl]; omega)]
      have hcur : ∀ j, j < n * 1 → cur.toList[j]? = flat[j]? := fun j hj => by rw [← ht, List.getElem?_take, if_pos hj]
      by_cases hj : j < n * 1
      · rw [if_pos hj]
        split
        · exact hcur j hj
        · split
          · rfl
          · exact hcur j hj
      · rw [if_neg hj]
        split
        · omega
        · split
          · omega
          · rw [List.getElem?_eq_none (by omega)]

theorem m_cpR (h : Inv X s a w β) (hE : EnvOK X.P X.E) {x y : Operand} {t e id ver lo n dCap : Nat} {te : TI} {A : Option Addr} {xs : List (List D)} (hu : X.P.underlying t = some (.slice e)) (hEe : X.E e = some te) (hone : te.size = 1)
    (hrun : ∀ v' w', (Builtin.copy_ #[t, t] o.type #[a.eval x, a.eval y]).run X.P w = .ok v' w' → (execOp a.eval o).run X.P w = .ok (.value v') w') (hl : lookB id s.bx = .arr e ver xs) (hx : a.eval x = .slice A n dCap)
    (hA : 0 < n → ∃ g m c, β id = .slice (some ⟨g, 0, none⟩) m c ∧ A = some ⟨g, lo, none⟩) (hg : Gets X.P X.E d bb (cpR id e ver lo n xs (srcE s.bx (ev s.fr y))) v u) : Moves X s a w o v u := by
  have hte := hE e te hEe
  obtain ⟨i0, z0, g1, g2, g3, g4, g5⟩ := hte.info
  have hsz : (X.P.info? e).map (·.size) = some 1 := by rw [g1, Option.map_some, g2, hone]
  unfold cpR at hg
  split at hg
  · rename_i ys hs
    obtain ⟨⟨hal, hfit⟩, rfl, rfl⟩ := hg
    obtain ⟨B, c, cell, hyv, hB, hr⟩ := src_copy h hs hal
    have hbox := h.box id
    rw [hl] at hbox
    obtain ⟨te', flat, hEe', h0, hlen, ho, hok, hr0⟩ := hbox
    have : te' = te := by
      rw [hEe] at hEe'
      injection hEe' with hEe'
      exact hEe'.symm
    subst this
    have hmin : (ys.take n).length = min n ys.length := List.length_take ..
    have hlaid : laid xs ys lo n = xs.take lo ++ (ys.take n ++ xs.drop (lo + (ys.take n).length)) := by rw [hmin]; rfl
    by_cases hm : min n ys.length = 0
    · have hrun' := run_copy_none (P := X.P) w t t o.type e A B n dCap ys.length c hu hsz (by show min ys.length n = 0; omega)
      have hys : ys.take n = [] := List.length_eq_zero_iff.1 (by rw [hmin]; exact hm)
      have hxs : laid xs ys lo n = xs := by rw [hlaid, hys]; simp
      rw [hxs]
      have hcg : Inv X ⟨s.fr, [(id, .arr e ver xs)] ++ s.bx⟩ a w β := h.congr (fun _ => rfl) fun i => by
        show lookB i ((id, .arr e ver xs) :: s.bx) = _
        rw [lookB_cons]
        by_cases hi : i = id
        · rw [if_pos hi, hi, hl]
        · rw [if_neg hi]
      exact ⟨_, .int .i64 0, w, β, hrun _ _ (by rw [hx, hyv]; exact hrun'), .inl rfl, hcg, by rw [hm]; exact .c _ _ (.sc _ rfl)⟩
    · obtain ⟨g, m, cc, hβ, rfl⟩ := hA (by omega)
      obtain ⟨ad, rfl, hcell⟩ := hB fun e => by rw [e] at hm; simp at hm
      rw [hβ, hone] at ho
      have hm' : m = xs.length := by
        rcases ho.2 with ⟨hv, hn⟩ | ⟨_, _, _, hv, _⟩
        · injection hv with _ e2 _; omega
        · injection hv
      subst hm'
      obtain ⟨cs, hcs⟩ : ∃ cs, cs = (List.range (min n ys.length)).map cell := ⟨_, rfl⟩
      have hcl : cs.length = min n ys.length := by rw [hcs]; simp
      have hcat : ∀ j v, cs[j]? = some v → j < min n ys.length ∧ v = cell j := fun j v hj => by
        have hlt : j < min n ys.length := by rw [← hcl]; exact (List.getElem?_eq_some_iff.1 hj).1
        rw [hcs, List.getElem?_map, List.getElem?_range hlt] at hj
        simp only [Option.map_some, Option.some.injEq] at hj
        exact ⟨hlt, hj.symm⟩
      obtain ⟨cur, hcur, hncur, hown'⟩ := own_copy ho (k := lo) (cs := cs) (by omega)
      have hone1 : ∀ v ∈ cs, v.oneCell' = true := fun v hv => by
        obtain ⟨j, hj⟩ := List.getElem?_of_mem hv
        obtain ⟨hlt, rfl⟩ := hcat j v hj
        have hjy : ys[j]? = some ys[j] := List.getElem?_eq_getElem (by omega)
        have hly := hal _ (List.mem_of_getElem? hjy)
        have := (hr j _ 0 _ hjy (one_getD (l := ys[j]) (n := 0) (by omega))).one
        rwa [show j * 1 + 0 = j by omega] at this
      have hrun' := run_copy_row (P := X.P) w t t o.type e g lo n dCap ad ys.length c cur e cs hu hsz hcur (by rw [hcl]; show min n ys.length = min ys.length n; omega)
        (fun j v hj => by
          obtain ⟨hlt, rfl⟩ := hcat j v hj
          exact hcell j (by omega)) (by omega) hone1
      have hch : Changed X s w β id (.arr e ver (laid xs ys lo n)) (β id) (w.setRow g (cur.toList.take lo ++ cs ++ cur.toList.drop (lo + cs.length)).toArray) :=
        set_changed h (by rw [hl]; rfl) (.of (by rw [hβ]; rfl)) (by
          rw [hl]
          refine .inl ⟨e, ver, _, rfl, Nat.le_refl _, fun _ => ⟨rfl, fun sz hsz' q hq => ?_⟩⟩
          have hxne : 0 < xs.length := by omega
          have hx0 := hsz' _ (List.mem_of_getElem? (List.getElem?_eq_getElem hxne))
          have hx1 := hlen _ (List.mem_of_getElem? (List.getElem?_eq_getElem hxne))
          rw [hlaid] at hq
          rcases List.mem_append.1 hq with hq | hq
          · exact hsz' q (List.mem_of_mem_take hq)
          · rcases List.mem_append.1 hq with hq | hq
            · rw [hal q (List.mem_of_mem_take hq), ← hx0, hx1, hone]
            · exact hsz' q (List.mem_of_mem_drop hq))
      generalize w.setRow g (cur.toList.take lo ++ cs ++ cur.toList.drop (lo + cs.length)).toArray = w2 at hch hown' hrun'
      have hll : (laid xs ys lo n).length = xs.length := by
        rw [hlaid, splice_len _ _ _ (by rw [hmin]; exact by omega)]
      have hinv := h.upd hch ⟨te', flat.take lo ++ (cs ++ flat.drop (lo + cs.length)), hEe, h0, fun q hq => by
          rw [hlaid] at hq
          rcases List.mem_append.1 hq with hq | hq
          · exact hlen q (List.mem_of_mem_take hq)
          · rcases List.mem_append.1 hq with hq | hq
            · rw [hal q (List.mem_of_mem_take hq), hone]
            · exact hlen q (List.mem_of_mem_drop hq), by rw [upd1_same, hll, hone, hβ]; exact hown', by rw [upd1_same]; exact hok, fun i q j dd hq hd => by
          have hfl : flat.length = xs.length * 1 := ho.1
          have hj0 : j = 0 := by
            have := (List.getElem?_eq_some_iff.1 hd).1
            have hql : q.length = 1 := by
              rw [hlaid] at hq
              rcases List.mem_append.1 (List.mem_of_getElem? hq) with hq | hq
              · rw [hlen q (List.mem_of_mem_take hq), hone]
              · rcases List.mem_append.1 hq with hq | hq
                · rw [hal q (List.mem_of_mem_take hq)]
                · rw [hlen q (List.mem_of_mem_drop hq), hone]
            omega
          subst hj0
          rw [hlaid, splice_at _ _ _ _ (by rw [hmin]; omega)] at hq
          rw [hone, List.getD_eq_getElem?_getD, splice_at _ _ _ _ (by rw [hcl, hfl]; omega), Nat.mul_one, Nat.add_zero]
          rw [hmin] at hq
          rw [hcl]
          split at hq
          · rename_i h1
            rw [if_pos h1]
            have := hr0 i q 0 dd hq hd
            rw [hone, Nat.mul_one, Nat.add_zero, List.getD_eq_getElem?_getD] at this
            exact this.keep hch.kept
          · rename_i h1
            rw [if_neg h1]
            split at hq
            · rename_i h2
              rw [if_pos h2]
              rw [List.getElem?_take, if_pos (by omega)] at hq
              have := hr (i - lo) q 0 dd hq hd
              rw [Nat.mul_one, Nat.add_zero] at this
              rw [hcs, List.getElem?_map, List.getElem?_range (by omega)]
              exact this.keep hch.kept
            · rename_i h2
              rw [if_neg h2]
              have := hr0 i q 0 dd hq hd
              rw [hone, Nat.mul_one, Nat.add_zero, List.getD_eq_getElem?_getD] at this
              exact this.keep hch.kept⟩
      refine ⟨_, _, _, _, hrun _ _ (by rw [hx, hyv]; exact hrun'), .inl rfl, hinv, ?_⟩
      rw [hcl]
      exact .c _ _ (.sc _ rfl)
  · exact hg.elim

theorem m_copy (h : Inv X s a w β) (hE : EnvOK X.P X.E) {x y : Operand} {t : Nat} {args : Array Operand} {ts : Array Nat} (hargs : args.toList = [x, y]) (hts : ts.toList = [t, t]) (ho : o.op = .call ⟨.builtin .copy, args, ts⟩)
    (hg : Gets X.P X.E d bb (cpAV X.E s.bx (ev s.fr x) (ev s.fr y) (X.E t)) v u) : Moves X s a w o v u := by
  have ha : args = #[x, y] := by rw [← Array.toArray_toList (xs := args), hargs]
  have ht : ts = #[t, t] := by rw [← Array.toArray_toList (xs := ts), hts]
  subst ha; subst ht
  unfold cpAV at hg
  split at hg
  · rename_i ti hT
    have hty := hE t ti hT
    unfold cpK at hg
    split at hg
    · rename_i e hk
      obtain ⟨hu, _, te, hEe, h0, hby⟩ := KindOK.slice hty hk
      rw [hEe] at hg
      simp only [cpE] at hg
      have hone := (beq_val hg).1
      replace hg := (beq_val hg).2
      have hrun : ∀ v' w', (Builtin.copy_ #[t, t] o.type #[a.eval x, a.eval y]).run X.P w = .ok v' w' → (execOp a.eval o).run X.P w = .ok (.value v') w' := fun v' w' hn => blt_val ho (fun c => rfl) (by simpa using hn)
      have hxv := h.ev x
      unfold cpX at hg
      split at hg
      · rename_i id ver hx
        rw [hx] at hxv
        unfold cpB at hg
        split at hg
        · rename_i e' v' xs hl
          have hc := (cond_val hg).1
          replace hg := (cond_val hg).2
          simp only [Bool.and_eq_true, beq_iff_eq] at hc
          obtain ⟨rfl, rfl⟩ := hc
          have hxe : a.eval x = β id := by
            generalize a.eval x = vx at hxv
            cases hxv with
            | osl _ _ _ _ hok => rw [hl] at hok; exact hok.2 rfl
          have hbox := h.box id
          rw [hl] at hbox
          obtain ⟨te', flat, _, _, _, ho', _⟩ := hbox
          obtain ⟨A, c, hβ, hA⟩ : ∃ A c, β id = .slice A xs.length c ∧ (0 < xs.length → ∃ g, A = some ⟨g, 0, none⟩) := by
            rcases ho'.2 with ⟨hv, hn⟩ | ⟨g, cap, cur, hv, _⟩
            · exact ⟨none, 0, by rw [hv, hn], fun h => by omega⟩
            · exact ⟨_, cap, hv, fun _ => ⟨g, rfl⟩⟩
          refine m_cpR h hE hu hEe hone hrun hl (hxe.trans hβ) (fun hp => ?_) hg
          obtain ⟨g, rfl⟩ := hA hp
          exact ⟨g, _, _, hβ, rfl⟩
        · exact hg.elim
      · rename_i id ver lo n sz hx
        rw [hx] at hxv
        unfold cpB at hg
        split at hg
        · rename_i e' v' xs hl
          have hc := (cond_val hg).1
          replace hg := (cond_val hg).2
          simp only [Bool.and_eq_true, beq_iff_eq] at hc
          obtain ⟨rfl, rfl⟩ := hc
          have hbox := h.box id
          rw [hl] at hbox
          obtain ⟨te', flat, hE', _, hlen, _⟩ := hbox
          have : te' = te := by
            rw [hEe] at hE'
            injection hE' with hE'
            exact hE'.symm
          subst this
          generalize hax : a.eval x = vx at hxv
          cases hxv with
          | csl _ _ _ _ _ _ h1 hok =>
            rw [hl] at hok
            obtain ⟨hsz, B, m, c, A, c', hβ, hln, rfl, hpos⟩ := hok.2 rfl
            refine m_cpR h hE hu hEe hone hrun hl hax (fun hp => ?_) hg
            obtain ⟨g, rfl, rfl⟩ := hpos hp
            refine ⟨g, m, c, hβ, ?_⟩
            have hbox := h.box id
            rw [hl] at hbox
            obtain ⟨_, _, _, _, _, ho', _⟩ := hbox
            rw [hβ] at ho'
            have hm : m = xs.length := by
              rcases ho'.2 with ⟨hv, hn⟩ | ⟨_, _, _, hv, _⟩
              · cases hv
              · injection hv
            have hxne : 0 < xs.length := by omega
            have e1 := hsz _ (List.mem_of_getElem? (List.getElem?_eq_getElem hxne))
            have e2 := hlen _ (List.mem_of_getElem? (List.getElem?_eq_getElem hxne))
            have : sz = 1 := by omega
            rw [this, Nat.mul_one]
        · exact hg.elim
      · exact hg.elim
    · exact hg.elim
  · exact hg.elim

/-! ### make -/
theorem zD_rp {M : Nat → Prop} {v : Value} (h1 : v.oneCell' = true) : Rp w M v (zD v) := by
  unfold zD
  split
  · exact Rp.nil _ _
  · exact .sc _ h1

theorem m_make (h : Inv X s a w β) (hE : EnvOK X.P X.E) {t : Nat} {l c : Operand} (ho : o.op = .makeSlice t l c) (hg : Gets X.P X.E d bb (mkAV X.E s.bx d (ev s.fr l) (ev s.fr c) (X.E t)) v u) : Moves X s a w o v u := by
  unfold mkAV at hg
  split at hg
  · rename_i ti hT
    have hty := hE t ti hT
    unfold mkK at hg
    split at hg
    · rename_i e hk
      obtain ⟨hu, _, te, hEe, h0, hby⟩ := KindOK.slice hty hk
      have hte := hE e te hEe
      rw [hEe] at hg
      simp only [mkE] at hg
      obtain ⟨hd, hg⟩ := dead_of hg
      split at hg
      · rename_i k n k' m hl hc
        obtain ⟨⟨rfl, hn0, hn1⟩, hg⟩ := hg
        obtain ⟨i, z, h1, h2, h3, h4, h5⟩ := hte.info
        have hby' : (i.bytes : Int) * n ≤ 281474976710656 := by
          have e1 : (n.toNat : Int) = n := Int.toNat_of_nonneg hn0
          have e2 : i.bytes * n.toNat ≤ 140737488355328 := by rw [h3, Nat.mul_comm]; exact hn1
          rw [← e1, ← Int.natCast_mul]; omega
        have hnn : n.toNat ≤ 140737488355328 := by
          have : n.toNat * 1 ≤ n.toNat * te.bytes := Nat.mul_le_mul_left _ hby
          omega
        have hr := run_make (P := X.P) w t e i z hu h1 h4 k k' n n hn0 (Int.le_refl _) hby' (by omega)
        have hrun : (execOp a.eval o).run X.P w = .ok (.value (.slice (some ⟨w.heap.size, 0, none⟩) n.toNat n.toNat)) (w.alloc (.cells (madeCells z.cells (n.toNat * i.size)) e)) := by
          simp only [execOp, ho, eval_sc h hl, eval_sc h hc, Sem.run_bind, hr, Result.andThen_ok, Sem.run_pure]
        have hzs : z.cells.size = te.size := by rw [h5, List.size_toArray]; exact hte.zero.1
        rw [h2] at hr hrun
        have hcells : ∀ (i j : Nat), i < n.toNat → j < te.size → (madeCells z.cells (n.toNat * te.size)).getD (i * te.size + j) undef = te.zero.getD j undef := fun i j hi hj => by
          have hii : i * te.size + te.size ≤ n.toNat * te.size := by
            rw [← Nat.succ_mul]; exact Nat.mul_le_mul_right _ hi
          have hlt : i * te.size + j < n.toNat * te.size := by omega
          have hmod : (i * te.size + j) % te.size = j := by
            rw [Nat.mul_comm, Nat.mul_add_mod, Nat.mod_eq_of_lt hj]
          have hjz : j < te.zero.length := by rw [hte.zero.1]; exact hj
          simp only [Array.getD_eq_getD_getElem?, madeCells]
          rw [Array.getElem?_map, Array.getElem?_range, if_pos hlt]
          simp only [Option.map_some, Option.getD_some]
          rw [hzs, hmod, h5]
          simp [List.getD, hjz]
        cases hown : ti.own with
        | true =>
          rw [hown] at hg
          simp only [mkB] at hg
          obtain ⟨hcc, hg⟩ := cond_val hg
          obtain ⟨rfl, rfl⟩ := hg
          simp only [Bool.and_eq_true] at hcc
          obtain ⟨hsk, hzn⟩ := hcc
          obtain ⟨e2, hk2⟩ : ∃ e2, te.kind = .slice e2 := by
            cases hkk : te.kind <;> rw [hkk] at hsk <;> first | (cases hsk; done) | exact ⟨_, rfl⟩
          obtain ⟨_, hone, te2, hEe2, h02, _⟩ := KindOK.slice hte hk2
          have hz0 : te.zero = [.slice none 0 0] := by
            unfold isNilZ at hzn
            split at hzn
            · assumption
            · cases hzn
          obtain ⟨vs, hvs⟩ : ∃ vs : Array Value, vs = (.slice (some ⟨w.heap.size, 0, none⟩) n.toNat n.toNat :: List.replicate n.toNat (.slice none 0 0)).toArray := ⟨_, rfl⟩
          have hv0 : vs.getD 0 undef = .slice (some ⟨w.heap.size, 0, none⟩) n.toNat n.toNat := by rw [hvs]; simp
          have hvp : ∀ p, p < n.toNat → vs.getD (p + 1) undef = .slice none 0 0 := fun p hp => by
            rw [hvs]
            simp [Array.getD_eq_getD_getElem?, hp]
          have hvb : ∀ j k, blk (vs.getD j undef) = some k → j = 0 ∧ k = w.heap.size := fun j k hk => by
            cases j with
            | zero =>
              rw [hv0] at hk
              injection hk with hk
              exact ⟨rfl, hk.symm⟩
            | succ p =>
              by_cases hp : p < n.toNat
              · rw [hvp p hp] at hk; cases hk
              · have : vs.getD (p + 1) undef = undef := by
                  rw [hvs]
                  have hle : n.toNat ≤ p := by omega
                  simp only [Array.getD_eq_getD_getElem?, List.getElem?_toArray, List.getElem?_cons_succ]
                  rw [List.getElem?_eq_none (by rw [List.length_replicate]; exact hle)]
                  rfl
                rw [this] at hk; cases hk
          have hch : Changed X s w β d (.nest e 0 0 none (List.replicate n.toNat [])) (.tuple vs) (w.alloc (.cells (madeCells z.cells (n.toNat * te.size)) e)) := by
            refine ⟨rfl, rfl, rfl, by simp, fun k hk _ => Below.heap_alloc w _ k hk, fun k _ hk => ?_, by rw [hd]; trivial⟩
            obtain ⟨j, hj⟩ := hk
            obtain ⟨_, rfl⟩ := hvb j k hj
            exact ⟨.inl (Nat.le_refl _), .inl h.keep.size⟩
          have hrl : (List.replicate n.toNat ([] : List (List D))).length = n.toNat := List.length_replicate
          refine ⟨_, _, _, _, hrun, .inl rfl, h.upd hch ⟨te, e2, te2, vs, (madeCells z.cells (n.toNat * te.size)).toList, fun _ => [], {
            ty := hEe, one := hone, kind := hk2, ty' := hEe2, pos := h02
            len := fun r hr x hx => by rw [List.eq_of_mem_replicate hr] at hx; cases hx
            val := upd1_same ..
            size := by rw [hrl, hvs]; simp
            outer := by
              rw [hv0, hrl]
              refine ⟨by rw [Array.length_toList, size_madeCells, hone], .inr ⟨w.heap.size, n.toNat, _, rfl, Nat.zero_le _, heap_alloc_new w _, Nat.le_refl _, by simp only [maxLen]; omega, by rw [size_madeCells, hone], ?_⟩⟩
              exact List.take_of_length_le (by rw [Array.length_toList, size_madeCells, hone]; exact Nat.le_refl _)
            row := fun p r hp => by
              have hpl : p < n.toNat := by simpa using (List.getElem?_eq_some_iff.1 hp).1
              rw [List.eq_of_mem_replicate (List.mem_of_getElem? hp), hvp p hpl]
              exact World.ownsRow_nil _ _ _ _
            at_ := fun p r hp i x j d hx => by
              rw [List.eq_of_mem_replicate (List.mem_of_getElem? hp)] at hx
              simp at hx
            cell := fun p hp _ => by
              rw [hrl] at hp
              have := hcells p 0 hp (by rw [hone]; omega)
              rw [hone, Nat.mul_one, Nat.add_zero, hz0] at this
              rw [hvp p hp, hone]
              simp only [Nat.mul_one] at this ⊢
              simpa [List.getD, Array.getD_eq_getD_getElem?] using this
            apart := fun i j k hi hj => by
              rw [(hvb i k hi).1, (hvb j k hj).1]
            own := fun k hk => by
              rw [upd1_same] at hk
              obtain ⟨j, hj⟩ := hk
              obtain ⟨_, rfl⟩ := hvb j k hj
              exact .inl h.keep.size }⟩, .osl _ _ _ rfl ?_⟩
          have e1 : lookB d ([(d, Box.nest e 0 0 none (List.replicate n.toNat []))] ++ s.bx) = .nest e 0 0 none (List.replicate n.toNat []) := by simp [lookB_cons]
          simp only [e1]
          exact ⟨Nat.le_refl _, fun _ => by rw [upd1_same]; exact hv0.symm⟩
        | false =>
        rw [hown] at hg
        simp only [mkB] at hg
        obtain ⟨rfl, rfl⟩ := hg
        have hch : Changed X s w β d (.arr e 0 (List.replicate n.toNat (te.zero.map zD))) (.slice (some ⟨w.heap.size, 0, none⟩) n.toNat n.toNat) (w.alloc (.cells (madeCells z.cells (n.toNat * te.size)) e)) := by
          refine ⟨rfl, rfl, rfl, by simp, fun k hk _ => Below.heap_alloc w _ k hk, fun k _ hk => ?_, by rw [hd]; trivial⟩
          injection hk with hk
          subst hk
          exact ⟨.inl (Nat.le_refl _), .inl h.keep.size⟩
        refine ⟨_, _, _, _, hrun, .inl rfl, h.upd hch ⟨te, (madeCells z.cells (n.toNat * te.size)).toList, hEe, h0, fun x hx => ?_, ⟨?_, .inr ⟨w.heap.size, n.toNat, _, ?_, Nat.zero_le _, heap_alloc_new w _, ?_, ?_, ?_, ?_⟩⟩, fun k hk => ?_, fun i x j dd hx hdd => ?_⟩, .osl _ _ _ rfl ?_⟩
        · rw [List.eq_of_mem_replicate hx, List.length_map]; exact hte.zero.1
        · rw [List.length_replicate, Array.length_toList, size_madeCells]
        · rw [upd1_same, List.length_replicate]
        · rw [List.length_replicate]; exact Nat.le_refl _
        · simp only [maxLen]; omega
        · rw [size_madeCells]
        · rw [List.length_replicate]
          exact List.take_of_length_le (by rw [Array.length_toList, size_madeCells]; exact Nat.le_refl _)
        · rw [upd1_same] at hk
          injection hk with hk
          subst hk
          exact .inl h.keep.size
        · have hi : i < n.toNat := by simpa using (List.getElem?_eq_some_iff.1 hx).1
          have hxe := List.eq_of_mem_replicate (List.mem_of_getElem? hx)
          subst hxe
          have hj : j < te.size := by
            have := (List.getElem?_eq_some_iff.1 hdd).1
            rw [List.length_map, hte.zero.1] at this; exact this
          have e1 : (madeCells z.cells (n.toNat * te.size)).toList.getD (i * te.size + j) undef = (madeCells z.cells (n.toNat * te.size)).getD (i * te.size + j) undef := by
            simp [List.getD, Array.getD_eq_getD_getElem?]
          rw [e1, hcells i j hi hj]
          have hjz : j < te.zero.length := by rw [hte.zero.1]; exact hj
          rw [List.getElem?_map, List.getElem?_eq_getElem hjz] at hdd
          simp only [Option.map_some, Option.some.injEq] at hdd
          subst hdd
          have e2 : te.zero.getD j undef = te.zero[j] := by simp [List.getD, hjz]
          rw [e2]
          exact zD_rp (hte.zero.2 _ (List.getElem_mem hjz))
        · have e1 : lookB d ([(d, Box.arr e 0 (List.replicate n.toNat (te.zero.map zD)))] ++ s.bx) = .arr e 0 (List.replicate n.toNat (te.zero.map zD)) := by simp [lookB_cons]
          simp only [e1]
          exact ⟨Nat.le_refl _, fun _ => (upd1_same _ _ _).symm⟩
      · exact hg.elim
    · exact hg.elim
  · exact hg.elim


theorem u8L_get : ∀ {ys : List (List D)} {ns : List Int}, u8L ys = some ns → ns.length = ys.length ∧ ∀ i (hi : i < ys.length), ∃ n, ys[i]? = some [.sc (.int .u8 n)] ∧ ns[i]? = some n
  | [], ns, h => by
    simp only [u8L, Option.some.injEq] at h
    subst h
    exact ⟨rfl, fun i hi => absurd hi (by simp)⟩
  | y :: r, ns, h => by
    unfold u8L at h
    split at h
    · rename_i heq; cases heq
    · rename_i n r' heq
      injection heq with h1 h2
      subst h1; subst h2
      cases hr : u8L r with
      | none => rw [hr] at h; cases h
      | some ms =>
        rw [hr] at h
        simp only [Option.map_some, Option.some.injEq] at h
        subst h
        obtain ⟨h3, h4⟩ := u8L_get hr
        refine ⟨by simp [h3], fun i hi => ?_⟩
        cases i with
        | zero => exact ⟨n, rfl, rfl⟩
        | succ i =>
          obtain ⟨k, h5, h6⟩ := h4 i (by simpa using hi)
          exact ⟨k, by simpa using h5, by simpa using h6⟩
    · cases h
theorem u8L_all {ys : List (List D)} {ns : List Int} (h : u8L ys = some ns) : AllLen 1 ys := fun y hy => by
  obtain ⟨i, hi⟩ := List.getElem?_of_mem hy
  obtain ⟨n, h1, _⟩ := (u8L_get h).2 i (List.getElem?_eq_some_iff.1 hi).1
  rw [hi] at h1
  injection h1 with h1
  rw [h1]; rfl
theorem q_convX (h : Inv X s a w β) (hE : EnvOK X.P X.E) {t t' : Nat} {x : Operand} (ho : o.op = .convert t t' x) (hg : Gets X.P X.E d bb (convX X.E s.bx (ev s.fr x) (X.E t') (X.E t)) v u) : Quiet X s a w β o v u := by
  unfold convX at hg
  split at hg
  · rename_i si hS
    unfold convY at hg
    split at hg
    · rename_i e hk
      have hus := (KindOK.slice (hE t si hS) hk).1
      unfold convS at hg
      split at hg
      · rename_i ti hT
        unfold convSK at hg
        split at hg
        · rename_i hkt
          have hud := (KindOK.str (hE t' ti hT) hkt).1
          unfold u8T at hg
          split at hg
          · rename_i te hTe
            unfold u8K at hg
            split at hg
            · rename_i hke
              have hue := (KindOK.int (hE e te hTe) hke).1
              unfold bytesO at hg
              split at hg
              · rename_i ys hys
                unfold strR at hg
                split at hg
                · rename_i ns hns
                  obtain ⟨hlen, hget⟩ := u8L_get hns
                  obtain ⟨A, c, cell, hv, hA, hr⟩ := src_sound h hys (u8L_all hns)
                  refine q_iv rfl hg ?_
                  have hcv : (Conv.bytesToString (.slice A ys.length c)).run X.P w = .ok (.string (strOf ns)) w := by
                    by_cases hne : ys = []
                    · subst hne
                      have : ns = [] := List.length_eq_zero_iff.1 (by simpa using hlen)
                      subst this
                      cases A with
                      | none => rfl
                      | some ad =>
                        exact run_bytesToString w ad 0 c [] (run_loadCells w ad 0 (fun _ => undef) (fun j hj => absurd hj (by omega)))
                    · obtain ⟨ad, rfl, hcell⟩ := hA hne
                      refine run_bytesToString w ad ys.length c ns ?_
                      rw [run_loadCells w ad ys.length cell (fun j hj => hcell j (by omega))]
                      congr 2
                      refine List.ext_getElem? fun i => ?_
                      by_cases hi : i < ys.length
                      · obtain ⟨n, h1, h2⟩ := hget i hi
                        have hrp := hr i _ 0 _ h1 (by rfl)
                        simp only [Nat.mul_one, Nat.add_zero] at hrp
                        rw [List.getElem?_map, List.getElem?_range hi, List.getElem?_map, h2]
                        simp only [Option.map_some, Option.some.injEq]
                        generalize cell i = ci at hrp ⊢
                        cases hrp
                        rfl
                      · rw [List.getElem?_eq_none (by simpa using hi), List.getElem?_eq_none (by rw [List.length_map, hlen]; omega)]
                  have := run_convert_bytes_string (P := X.P) w t t' e A ys.length c hus hue hud
                  rw [hcv] at this
                  simp [execOp, ho, hv, this]
                · exact hg.elim
              · exact hg.elim
            · exact hg.elim
          · exact hg.elim
        · exact hg.elim
      · exact hg.elim
    · exact q_conv h hE ho (by rw [hS]; exact hg)
  · exact hg.elim

end
end Go.Vx
end
