/-
  Soundness of the verification-condition generator: loops, whole bodies, contracts. Conditions: none.
  Soundness of the verification-condition generator: contracts. A result may lie in a slot or in a cell; the marks of loops over functions are taken off. Conditions: none.
  Soundness of the verification-condition generator: contracts of functions that are handed boxes. Conditions: none.
  The verification-condition generator for iterators: what an iterator yields, in order. Definitions and soundness. Conditions: none.
  Contracts: a fresh result is also a result by value. Conditions: none.
-/
import Derived.Test.YtiioldgdgfdjeaaMC
import Derived.DefersIn
import Derived.RangeFuncLeaves

section
set_option linter.unusedVariables false
set_option linter.unusedSimpArgs false
namespace Go.Vx
open Go Go.RowKit

def MutAt : R → Nat → List AV → Prop
  | .ob _ r, f, raw => MutAt r f raw
  | .br t a b, f, raw => (t = true ∧ MutAt a f raw) ∨ (t = false ∧ MutAt b f raw)
  | .call g _ _ raw', f, raw => g = f ∧ raw' = raw
  | .callM g raw', f, raw => g = f ∧ raw' = raw
  | _, _, _ => False
theorem MutAt_no : ∀ {r : R} {f : Nat} {raw : List AV}, MutAt r f raw → noM r → False
  | .val _ _, _, _, h, _ => h
  | .ob _ r, _, _, h, hn => MutAt_no (r := r) h hn
  | .br _ a b, _, _, h, hn => by
    rcases h with ⟨_, h⟩ | ⟨_, h⟩
    · exact MutAt_no (r := a) h hn.1
    · exact MutAt_no (r := b) h hn.2
  | .call _ _ _ _, _, _, _, hn => hn
  | .callM _ _, _, _, _, hn => hn
  | .bad, _, _, h, _ => h

theorem stepR_or {P : Program} {E : Env} {pb : List (Nat × Box)} {d : Nat} {b : Box} {W : AV → Upd → S → Prop} : ∀ {r : R} {s : S}, stepR P E (some pb) d b W r s → (∃ v u, Gets P E d b r v u ∧ W v u s) ∨ ∃ f raw, MutAt r f raw ∧ CallMVC P E pb f raw W s
  | .val v u, s, h => .inl ⟨v, u, ⟨rfl, rfl⟩, h⟩
  | .ob p r, s, h => by
    rcases stepR_or (r := r) h.2 with ⟨v, u, hg, hw⟩ | ⟨f, raw, hm, hc⟩
    · exact .inl ⟨v, u, ⟨h.1, hg⟩, hw⟩
    · exact .inr ⟨f, raw, hm, hc⟩
  | .br t x y, s, h => by
    cases t
    · rcases stepR_or (r := y) h with ⟨v, u, hg, hw⟩ | ⟨f, raw, hm, hc⟩
      · exact .inl ⟨v, u, .inr ⟨rfl, hg⟩, hw⟩
      · exact .inr ⟨f, raw, .inr ⟨rfl, hm⟩, hc⟩
    · rcases stepR_or (r := x) h with ⟨v, u, hg, hw⟩ | ⟨f, raw, hm, hc⟩
      · exact .inl ⟨v, u, .inl ⟨rfl, hg⟩, hw⟩
      · exact .inr ⟨f, raw, .inl ⟨rfl, hm⟩, hc⟩
  | .call f args u raw, s, h => by
    rcases h with ⟨r, v', u2, u3, h1, h2, h4, h3⟩ | hc
    · exact .inl ⟨v', _, ⟨r, u2, u3, h1, h2, h4, rfl⟩, h3⟩
    · exact .inr ⟨f, raw, ⟨rfl, rfl⟩, hc⟩
  | .callM f raw, s, h => .inr ⟨f, raw, ⟨rfl, rfl⟩, h⟩
  | .bad, _, h => h.elim

section
variable {X : Ctx} {s s0 : S} {a : Act} {w : World} {β : Nat → Value}

theorem MutAt_op {E : Env} {d : Nat} {o : Op} {f : Nat} {raw : List AV} (h : MutAt (opR E s d o) f raw) : ∃ fo args ts cs, o = .call ⟨.value fo, args, ts⟩ ∧ ev s.fr fo = .fn f cs ∧ raw = args.toList.map (ev s.fr) ++ cs := by
  by_cases hc : ∃ fo args ts, o = .call ⟨.value fo, args, ts⟩
  · obtain ⟨fo, args, ts, rfl⟩ := hc
    simp only [opR, callR] at h
    split at h
    · rename_i g hf
      refine ⟨fo, args, ts, [], rfl, ?_, ?_⟩
      · rw [hf]
        cases hn : normL s.bx (args.toList.map (ev s.fr)) <;> rw [hn] at h
        · rw [h.1]
        · rw [h.1]
      · rw [List.append_nil]
        cases hn : normL s.bx (args.toList.map (ev s.fr)) <;> rw [hn] at h
        · exact h.2.symm
        · exact h.2.symm
    · rename_i g c cs hf
      exact ⟨fo, args, ts, c :: cs, rfl, by rw [hf, h.1], h.2.symm⟩
    · exact h.elim
    · exact h.elim
  · exact (MutAt_no h (noM_op fun fo args ts e => hc ⟨fo, args, ts, e⟩)).elim

theorem MutAt_wanted {ops : Array Oper} {o : Oper} {f : Nat} {raw : List AV} (h : Inv X s a w β) (hm : MutAt (opG X.E ops.toList s o) f raw) : Region.wanted o (yielded ops a.tmps) = true ∧ MutAt (opR X.E s (dstN o.dst) o.op) f raw := by
  unfold opG at hm
  cases hgd : o.guard with
  | none =>
    rw [hgd] at hm
    exact ⟨by simp [Region.wanted, hgd], hm⟩
  | some p =>
    obtain ⟨j, want⟩ := p
    rw [hgd] at hm
    simp only [] at hm
    unfold guardR at hm
    split at hm
    · rename_i t ht
      cases hdj : dstAt ops.toList j with
      | none => rw [hdj] at ht; cases ht
      | some d =>
        rw [hdj] at ht
        simp only [lookO] at ht
        have hv := h.fr d
        rw [ht] at hv
        have hval : a.tmps[d]? = some (.bool t) := by
          rw [Array.getD_eq_getD_getElem?] at hv
          cases hx : a.tmps[d]? with
          | none =>
            rw [hx] at hv
            have := hv.to_c
            simp only [Option.getD_none, undef] at this
            cases this
          | some x =>
            rw [hx] at hv
            have := hv.to_c
            cases this
            rfl
        have hy : yielded ops a.tmps j = some t := by
          unfold dstAt at hdj
          rw [Array.getElem?_toList] at hdj
          unfold yielded
          cases hoj : ops[j]? with
          | none => rw [hoj] at hdj; cases hdj
          | some oj =>
            rw [hoj] at hdj
            simp only [] at hdj
            simp only [Option.bind_some, hdj, hval]
        cases want <;> simp only [cond_true, cond_false] at hm
        · rcases hm with ⟨_, hm⟩ | ⟨rfl, hm⟩
          · exact hm.elim
          · exact ⟨by simp [Region.wanted, hgd, hy], hm⟩
        · rcases hm with ⟨rfl, hm⟩ | ⟨_, hm⟩
          · exact ⟨by simp [Region.wanted, hgd, hy], hm⟩
          · exact hm.elim
    · exact hm.elim
    · exact hm.elim

theorem wpOp_mut {ops : Array Oper} {Q : Exit → Act → World → Prop} {K : Act → World → Prop} {W : S → Prop} {i : Nat} {o : Oper} {f : Nat} {raw : List AV} (hi : ops[i]? = some o) (h : Inv X s a w β) (hd : ∀ d, o.dst = some d → d < X.n)
    (hm : MutAt (opG X.E ops.toList s o) f raw) (hc : CallMVC X.P X.E X.pb f raw (nextP o.dst W) s) (hK : ∀ s' a' w' β', W s' → Inv X s' a' w' β' → K a' w') : wpOp X.P ops Q i K a w := by
  obtain ⟨hw, hm⟩ := MutAt_wanted h hm
  obtain ⟨fo, args, ts, cs, ho, hfo, hraw⟩ := MutAt_op hm
  unfold wpOp
  simp only [hi, hw, if_true]
  refine .inl ?_
  have hfv := h.ev fo
  rw [hfo] at hfv
  obtain ⟨caps, hcaps⟩ : ∃ caps, a.eval fo = .func (.func f) #[] caps := by
    generalize a.eval fo = vf at hfv
    cases hfv with
    | fn _ caps _ _ _ => exact ⟨caps, rfl⟩
  have hrun : ∀ fn, X.P.funcs[f]? = some fn → (fn.name == "runtime.NumGoroutine") = false → fn.body.isNone = false → (execOp a.eval o).run X.P w = .ok (.enter f (args.map a.eval ++ caps)) w := fun fn h1 h2 h3 => by
    simp only [execOp, ho, resolve, hcaps, Deferred.ofValue, invoke, callFunc, Sem.run_bind, Sem.run_pure, Result.andThen_ok, run_program, h1, h2, h3, Bool.false_eq_true, if_false, Array.empty_append]
  obtain ⟨r', u, s1, hW, ⟨fn, h1, h2, h3⟩, hcalls⟩ := callM_sound (vals := args.map a.eval ++ caps) h hc (fun bx hI => by
    have hfv := hI.ev fo
    simp only [hfo, hcaps] at hfv
    cases hfv with
    | fn _ _ _ hs hcv =>
      subst hraw
      refine ⟨by simp [hs], fun j av hj => ?_⟩
      by_cases hlt : j < args.size
      · rw [List.getElem?_append_left (by simpa using hlt), List.getElem?_map] at hj
        have hx : args.toList[j]? = some args[j] := by simp [hlt]
        rw [hx] at hj
        simp only [Option.map_some, Option.some.injEq] at hj
        subst hj
        have e1 : (args.map a.eval ++ caps).getD j undef = a.eval args[j] := by
          simp [Array.getD_eq_getD_getElem?, Array.getElem?_append_left, hlt]
        rw [e1]
        exact hI.ev args[j]
      · rw [List.getElem?_append_right (by simpa using Nat.le_of_not_lt hlt)] at hj
        have e1 : (args.map a.eval ++ caps).getD j undef = caps.getD (j - args.size) undef := by
          simp only [Array.getD_eq_getD_getElem?]
          rw [Array.getElem?_append_right (by simpa using Nat.le_of_not_lt hlt)]
          simp
        rw [e1]
        exact hcv _ _ (by simpa using hj))
  unfold Oper.wp
  rw [hrun fn h1 h2 h3, Oper.upon_enter]
  refine hcalls.mono fun e w' hh => ?_
  obtain ⟨v, β', rfl, hI', hrv⟩ := hh
  exact hK _ _ _ β' hW (putU_inv (s := s1) hd hI' hrv)

theorem text_sound {ops : Array Oper} {K : S → Prop} {Q : Exit → Act → World → Prop} (hE : EnvOK X.P X.E) (hd : ∀ (i : Nat) o d, ops.toList[i]? = some o → o.dst = some d → d < X.n) (hQ : ∀ s a w β, K s → Inv X s a w β → Q .normal a w) :
    ∀ (l : List Oper) (k : Nat) (s : S) (a : Act) (w : World) (β : Nat → Value), (∀ j, j < l.length → l[j]? = ops.toList[k + j]?) → vcOps X.P X.E (some X.pb) ops.toList K l s → Inv X s a w β → wpOps X.P ops Q (List.range' k l.length) a w
  | [], k, s, a, w, β, _, h, hI => hQ s a w β h hI
  | o :: r, k, s, a, w, β, hl, h, hI => by
    have ho : ops[k]? = some o := by
      have := hl 0 (by simp)
      rw [Nat.add_zero, Array.getElem?_toList (xs := ops)] at this
      rw [← this]; rfl
    have hdo : ∀ d, o.dst = some d → d < X.n := fun d hdd => hd k o d (by rw [Array.getElem?_toList]; exact ho) hdd
    have hrest : ∀ j, j < r.length → r[j]? = ops.toList[k + 1 + j]? := fun j hj => by
      have := hl (j + 1) (by simpa using hj)
      rw [List.getElem?_cons_succ] at this
      rw [this]
      congr 1; omega
    rw [List.length_cons, List.range'_succ, wpOps_cons]
    rcases stepR_or h with ⟨v, u, hg, hw⟩ | ⟨f, raw, hm, hc⟩
    · exact wpOp_goes ho hI hE hdo hg fun a' w' β' hI' => text_sound hE hd hQ r (k + 1) _ a' w' β' hrest hw hI'
    · exact wpOp_mut ho hI hdo hm hc fun s' a' w' β' hs hI' => text_sound hE hd hQ r (k + 1) _ a' w' β' hrest hs hI'

/-! a call with boxes among operations that may change their places -/
def MutC (P : Program) (E : Env) (f : Nat) (raw : List AV) (bx : List (Nat × Box)) (v : AV) (u : Upd) : Prop :=
  ∃ (args0 : List AV) (bx0 : List (Nat × Box)) (r : AV) (bx1 : List (Nat × Box)) (σ : List (Nat × Nat)), OkM P E f args0 bx0 r bx1 ∧
    (FitL σ bx bx0 raw args0 ∧ LeB σ ⟨[], bx⟩ bx0 bx0 ∧ nodupR σ bx0 [] = true ∧ nodupR σ bx1 [] = true ∧ NewL σ bx bx0 bx1 ∧ updTop (reU σ bx bx0 bx1) = true) ∧ v = renA σ bx bx0 r ∧ u = reU σ bx bx0 bx1
theorem LeB_fr {ρ : List (Nat × Nat)} {f1 f2 : List (Nat × AV)} {bx bx0 : List (Nat × Box)} : ∀ {l : List (Nat × Box)}, LeB ρ ⟨f1, bx⟩ bx0 l → LeB ρ ⟨f2, bx⟩ bx0 l
  | [], _ => trivial
  | p :: r, h => ⟨h.1, LeB_fr (l := r) h.2⟩
inductive PathM (P : Program) (E : Env) (all : List Oper) (m : Nat) : Nat → List Oper → S → Outs → S → Prop
  | nil (i : Nat) (s : S) : PathM P E all m i [] s [] s
  | cons (i : Nat) (o : Oper) (r : List Oper) (s : S) (v : AV) (u : Upd) (outs : Outs) (s' : S) (h : i ≠ m → Gets P E (dstN o.dst) (lookB (dstN o.dst) s.bx) (opG E all s o) v u)
      (hm : i = m → ∃ f raw, MutAt (opG E all s o) f raw ∧ MutC P E f raw s.bx v u) (h' : PathM P E all m (i + 1) r (putU s o.dst v u) outs s') : PathM P E all m i (o :: r) s ((v, u) :: outs) s'
theorem stepM_at {P : Program} {E : Env} {W : AV → Upd → S → Prop} {r : R} {s : S} (h : stepM P E W r s) : ∃ v u, (∃ f raw, MutAt r f raw ∧ MutC P E f raw s.bx v u) ∧ W v u s := by
  have hl : ∀ f raw, MutL P E f raw W s → MutAt r f raw → ∃ v u, (∃ f raw, MutAt r f raw ∧ MutC P E f raw s.bx v u) ∧ W v u s := fun f raw h hm => by
    obtain ⟨args0, bx0, rr, bx1, σ, h1, ⟨g1, g2, g3⟩, h3⟩ := h
    exact ⟨_, _, ⟨f, raw, hm, args0, bx0, rr, bx1, σ, h1, ⟨g1, LeB_fr (f1 := s.fr) g2, g3⟩, rfl, rfl⟩, h3⟩
  cases r with
  | call f args u raw => exact hl f raw h ⟨rfl, rfl⟩
  | callM f raw => exact hl f raw h ⟨rfl, rfl⟩
  | val _ _ => exact h.elim
  | ob _ _ => exact h.elim
  | br _ _ _ => exact h.elim
  | yld _ _ _ _ => exact h.elim
  | bad => exact h.elim
theorem vcLogM_path {P : Program} {E : Env} {all : List Oper} {K : Log → S → Prop} {m : Nat} : ∀ {l : List Oper} {i : Nat} {log : Log} {s : S}, vcLogM P E all K m i l log s → ∃ outs s', PathM P E all m i l s outs s' ∧ K (logOf i l outs s log) s'
  | [], i, log, s, h => ⟨[], s, .nil i s, h⟩
  | o :: r, i, log, s, h => by
    simp only [vcLogM] at h
    cases hi : (i == m) with
    | true =>
      rw [hi] at h
      have hi : i = m := by simpa using hi
      obtain ⟨v, u, hg, hw⟩ := stepM_at h
      obtain ⟨outs, s', hp, hk⟩ := vcLogM_path (l := r) hw
      exact ⟨(v, u) :: outs, s', .cons i o r s v u outs s' (fun e => (e hi).elim) (fun _ => hg) hp, hk⟩
    | false =>
      rw [hi] at h
      have hi : i ≠ m := by simpa using hi
      obtain ⟨v, u, hg, hw⟩ := stepR_gets h
      obtain ⟨outs, s', hp, hk⟩ := vcLogM_path (l := r) hw
      exact ⟨(v, u) :: outs, s', .cons i o r s v u outs s' (fun _ => hg) (fun e => (hi e).elim) hp, hk⟩
theorem pathM_at {P : Program} {E : Env} {all l : List Oper} {m k : Nat} {s s' : S} {outs : Outs} (h : PathM P E all m k l s outs s') : outs.length = l.length ∧ s' = appL (fun _ => true) k l outs s ∧
    ∀ (i : Nat) o, l[i]? = some o → ∃ v u, outs[i]? = some (v, u) ∧ (k + i ≠ m → Gets P E (dstN o.dst) (lookB (dstN o.dst) (appL (fun j => decide (j < k + i)) k l outs s).bx) (opG E all (appL (fun j => decide (j < k + i)) k l outs s) o) v u) ∧
      (k + i = m → ∃ f raw, MutAt (opG E all (appL (fun j => decide (j < k + i)) k l outs s) o) f raw ∧ MutC P E f raw (appL (fun j => decide (j < k + i)) k l outs s).bx v u) := by
  induction h with
  | nil k s => exact ⟨rfl, rfl, fun i o hi => by simp at hi⟩
  | cons k o r s v u outs s' hg hm _ ih =>
    obtain ⟨h1, h2, ih⟩ := ih
    refine ⟨by simp [h1], by rw [appL, cond_true]; exact h2, fun i oi hi => ?_⟩
    cases i with
    | zero =>
      simp only [List.getElem?_cons_zero, Option.some.injEq] at hi
      subst hi
      refine ⟨v, u, rfl, ?_⟩
      rw [appL_none _ _ k s (fun j hj => by simp; omega)]
      exact ⟨hg, hm⟩
    | succ i =>
      simp only [List.getElem?_cons_succ] at hi
      obtain ⟨v', u', e1, e2⟩ := ih i oi hi
      refine ⟨v', u', by simpa using e1, ?_⟩
      have e3 : (fun j => decide (j < k + (i + 1))) = (fun j => decide (j < k + 1 + i)) := by
        funext j; congr 1; exact propext ⟨fun h => by omega, fun h => by omega⟩
      rw [appL, e3, show decide (k < k + (i + 1)) = true from by simp, cond_true, show k + (i + 1) = k + 1 + i by omega]
      exact e2
theorem appL_bx {p : Nat → Bool} : ∀ (l : List Oper) (outs : Outs) (k : Nat) (s : S), (∀ j x, outs[j]? = some x → p (k + j) = true → x.2 = []) → (appL p k l outs s).bx = s.bx
  | [], _, _, _, _ => by unfold appL; rfl
  | o :: r, [], _, _, _ => by unfold appL; rfl
  | o :: r, x :: outs, k, s, h => by
    rw [appL, appL_bx r outs (k + 1) _ fun j y hy hp => h (j + 1) y (by simpa using hy) (by rw [show k + (j + 1) = k + 1 + j by omega]; exact hp)]
    cases hp : p k with
    | false => rfl
    | true =>
      have := h 0 x rfl (by rw [Nat.add_zero]; exact hp)
      rw [cond_true]
      unfold putU
      split <;> simp [this]
theorem checkM_at {all : List Oper} {m j : Nat} {o : Oper} (h : checkM all m = true) (ho : all[j]? = some o) (hw : writy o.op = true) : j = m ∨ (m < j ∧ Nat.testBit ((masks all []).getD j 0) m = true) := by
  have hlt := (List.getElem?_eq_some_iff.1 ho).1
  simp only [checkM, List.all_eq_true] at h
  have := h j (by simpa using hlt)
  simp only [ho, hw, Bool.not_true, Bool.false_or, Bool.or_eq_true, decide_eq_true_eq, Bool.and_eq_true] at this
  exact this
theorem goesM {ops : Array Oper} {outs : Outs} {sus : List (Nat × Nat)} {m : Nat} {Q : Exit → Act → World → Prop} (hT : Tied X ops outs s sus m) (hcm : checkM ops.toList m = true)
    (hmm : ∀ o v u, ops.toList[m]? = some o → outs[m]? = some (v, u) → ∃ f raw, MutAt (opG X.E ops.toList (upTo ops outs s m) o) f raw ∧ MutC X.P X.E f raw (upTo ops outs s m).bx v u) : GoesM X ops outs s m Q := by
  intro L o v u hL ho hu hLm hrdy a w β hI K hK
  obtain ⟨_, g0, _, _⟩ := hT.step hL ho hu hLm hrdy
  obtain ⟨f, raw, hm, args0, bx0, rr, bx1, σ, h1, ⟨c1, c2, c3⟩, rfl, rfl⟩ := hmm o v u ho hu
  have e1 : (upTo ops outs s m).bx = s.bx := appL_bx _ _ _ _ fun j x hx hp => by
    rw [Nat.zero_add] at hp
    have hp : j < m := by simpa using hp
    obtain ⟨oj, hj⟩ := hT.oper_at hx
    cases hw : writy oj.op with
    | false => exact hT.wr hj (v := x.1) (u := x.2) hx hw
    | true =>
      rcases checkM_at hcm hj hw with h | h
      · omega
      · omega
  have e2 : (appL L 0 ops.toList outs s).bx = s.bx := appL_bx _ _ _ _ fun j x hx hp => by
    rw [Nat.zero_add] at hp
    obtain ⟨oj, hj⟩ := hT.oper_at hx
    cases hw : writy oj.op with
    | false => exact hT.wr hj (v := x.1) (u := x.2) hx hw
    | true =>
      rcases checkM_at hcm hj hw with rfl | h
      · rw [hLm] at hp; cases hp
      · have := hT.bit hL hp h.2
        rw [hLm] at this; cases this
  rw [e1] at c1 c2 c3 hK
  rw [← g0] at hm
  have ho' : ops[m]? = some o := by rw [← Array.getElem?_toList]; exact ho
  refine wpOp_mut (W := fun s' => s' = putU (appL L 0 ops.toList outs s) o.dst (renA σ s.bx bx0 rr) (reU σ s.bx bx0 bx1)) ho' hI (fun d hd => hT.dst m o d ho hd) hm (.inl ⟨args0, bx0, rr, bx1, [], σ, h1, ?_, ?_⟩) fun s' a' w' β' hs hI' => ?_
  · show FitL σ (appL L 0 ops.toList outs s).bx bx0 raw args0 ∧ LeB σ ⟨_, (appL L 0 ops.toList outs s).bx⟩ bx0 bx0 ∧ nodupR σ bx0 [] = true ∧ nodupR σ bx1 [] = true ∧ NewL σ (appL L 0 ops.toList outs s).bx bx0 bx1 ∧ updTop (reU σ (appL L 0 ops.toList outs s).bx bx0 bx1) = true
    rw [e2]
    exact ⟨c1, LeB_fr c2, c3⟩
  · show putU ⟨(appL L 0 ops.toList outs s).fr, (appL L 0 ops.toList outs s).bx⟩ o.dst (renA σ (appL L 0 ops.toList outs s).bx bx0 rr) (reU σ (appL L 0 ops.toList outs s).bx bx0 bx1) = _
    rw [e2]
    congr 1
    rw [← e2]
  · subst hs
    exact hK a' w' β' hI'

theorem region_sound {r : Option Nat} {n : Nat} {id : Nat} {ops : Array Oper} {dr : Bool} {L : Sus} {K : S → Prop} {Q' : Exit → Act → World → Prop} (hE : EnvOK X.P X.E) (hm : X.P.follows .mixedOrders = true) (hnd : r = none ∨ calmB (.region id ops dr) = true) (hc : codeB X.n L (.region id ops dr) = true)
    (h : cond dr (vcD X.P X.E X.pb ops.toList K s (susOf id L)) (vcOps X.P X.E (some X.pb) ops.toList K ops.toList s)) (hI : Inv X s a w β) (hQ : ∀ s a w β, K s → Inv X s a w β → Q' .normal a w) : (Code.region id ops dr).wpIn (fenceR r) n X.P Q' a w := by
  simp only [codeB, Bool.and_eq_true, Bool.or_eq_true] at hc
  obtain ⟨hd, ho⟩ := hc
  have hnd' : r = none ∨ ∀ o ∈ ops.toList, notDefer o.op = true := hnd.imp (fun h => h) fun h => List.all_eq_true.1 h
  have hQ0 : ∀ e a w, (fun (e : Exit) (a : Act) (w : World) => e = .normal ∧ Q' .normal a w) e a w → e = .normal := fun e a w h => h.1
  have hQN : ∀ a w, (fun (e : Exit) (a : Act) (w : World) => e = .normal ∧ Q' .normal a w) .normal a w → Q' .normal a w := fun a w h => h.2
  cases dr with
  | false =>
    refine wpIn_region (ops_in hnd' hQ0 hQN _ _ _ ?_)
    have := text_sound (Q := fun e a w => e = .normal ∧ Q' .normal a w) hE (dsts_of hd) (fun s a w β hk hI => ⟨rfl, hQ s a w β hk hI⟩) ops.toList 0 s a w β (fun j _ => by rw [Nat.zero_add]) h hI
    rwa [Array.length_toList, ← List.range_eq_range'] at this
  | true =>
    have ho : orderX ops.toList (susOf id L) = true := by simpa using ho
    simp only [cond_true] at h
    have hold : ∀ (ops' : Array Oper) (sus : List (Nat × Nat)) (K' : S → Prop) (Z : Act → World → Prop), orderB ops'.toList sus = true → (∀ (i : Nat) o d, ops'.toList[i]? = some o → o.dst = some d → d < X.n) → vcD1 X.P X.E ops'.toList K' s sus → (∀ s a w β, K' s → Inv X s a w β → Z a w) →
        wpAny X.P .any ops' (fun e a w => e = .normal ∧ Z a w) ops'.size (Array.replicate ops'.size false) a { w with drawn := w.drawn + 1 } := by
      intro ops' sus K' Z ho hd h hZ
      have hpath : ∃ outs s', Path X.P X.E ops'.toList ops'.toList s outs s' ∧ K' s' ∧ ∀ i j x y vx ux vy uy, (i, j) ∈ sus → ops'.toList[i]? = some x → ops'.toList[j]? = some y → outs[i]? = some (vx, ux) → outs[j]? = some (vy, uy) →
          (∀ id ∈ ux.map (·.1), id ∉ touched (upTo ops' outs s j) y uy) ∧ (∀ id ∈ uy.map (·.1), id ∉ touched (upTo ops' outs s i) x ux) := by
        cases hs : sus with
        | nil =>
          rw [hs] at h
          obtain ⟨outs, s', hp, hk⟩ := vcOps_path h
          exact ⟨outs, s', hp, hk, fun i j x y vx ux vy uy hm => by cases hm⟩
        | cons p r =>
          rw [hs] at h
          obtain ⟨outs, s', hp, hok, hk⟩ := vcLog_path h
          refine ⟨outs, s', hp, hk, fun i j x y vx ux vy uy hm hx hy hox hoy => ?_⟩
          obtain ⟨g1, g2⟩ := susOK_spec hok i j hm
          have e1 := logAt_new ops'.toList outs 0 s [] i x _ hx hox
          have e2 := logAt_new ops'.toList outs 0 s [] j y _ hy hoy
          rw [Nat.zero_add] at e1 e2
          rw [e1, e2] at g1 g2
          exact ⟨g1, g2⟩
      obtain ⟨outs, s', hp, hk, hdyn⟩ := hpath
      obtain ⟨hlen, hat⟩ := path_at hp
      obtain ⟨hs', hat⟩ := hat 0
      have hgets : ∀ (i : Nat) o v u, ops'.toList[i]? = some o → outs[i]? = some (v, u) → Gets X.P X.E (dstN o.dst) (lookB (dstN o.dst) (upTo ops' outs s i).bx) (opG X.E ops'.toList (upTo ops' outs s i) o) v u := fun i o v u hi hu => ?_
      · refine region_any (sus := sus) (mm := ops'.size) (Q := fun e a w => e = .normal ∧ Z a w) hE ⟨ho, hlen, fun i o v u hi hu _ => hgets i o v u hi hu, fun i o v u hi hu hw => noU_gets (hgets i o v u hi hu) (noU_opG hw), hdyn, hd⟩ (fun L o v u _ h => by
          have := (List.getElem?_eq_some_iff.1 h).1
          simp at this) hI fun a w β hI' => ⟨rfl, hZ s' a w β hk (by rw [hs']; exact hI')⟩
      obtain ⟨v', u', e1, e2⟩ := hat i o hi
      rw [hu] at e1
      injection e1 with e1
      injection e1 with e1 e1'
      subst e1; subst e1'
      rw [Nat.zero_add] at e2
      exact e2
    refine wpIn_region_any hm (any_in (Q0 := fun e a w => e = .normal ∧ Q' .normal a w) hnd' hQ0 hQN _ _ _ _ ?_)
    generalize susOf id L = sus at h ho
    have hplain : orderB ops.toList sus = true → vcD1 X.P X.E ops.toList K s sus → wpAny X.P .any ops (fun e a w => e = .normal ∧ Q' .normal a w) ops.size (Array.replicate ops.size false) a { w with drawn := w.drawn + 1 } := fun ho h =>
      hold ops sus K (fun a w => Q' .normal a w) ho (dsts_of hd) h hQ
    cases sus with
    | nil => exact hplain ho h
    | cons p r =>
      simp only [orderX] at ho
      simp only [vcD] at h
      cases hp : (p.1 == p.2) with
      | false =>
        rw [hp] at ho h
        simp only [cond_false] at ho h
        cases hp2 : (p.2 == p.1 + 1000) with
        | false =>
          rw [hp2] at ho h
          exact hplain ho h
        | true =>
          rw [hp2] at ho h
          simp only [cond_true, Bool.and_eq_true] at ho h
          obtain ⟨ho, hcm⟩ := ho
          obtain ⟨outs, s', hpath, hok, hk⟩ := vcLogM_path h
          obtain ⟨hlen, hs', hat⟩ := pathM_at hpath
          simp only [Nat.zero_add] at hat
          have hgets : ∀ (i : Nat) o v u, ops.toList[i]? = some o → outs[i]? = some (v, u) → (i ≠ p.1 → Gets X.P X.E (dstN o.dst) (lookB (dstN o.dst) (upTo ops outs s i).bx) (opG X.E ops.toList (upTo ops outs s i) o) v u) ∧
              (i = p.1 → ∃ f raw, MutAt (opG X.E ops.toList (upTo ops outs s i) o) f raw ∧ MutC X.P X.E f raw (upTo ops outs s i).bx v u) := fun i o v u hi hu => by
            obtain ⟨v', u', e1, e2⟩ := hat i o hi
            rw [hu] at e1
            injection e1 with e1
            injection e1 with e1 e1'
            subst e1; subst e1'
            exact e2
          have hT : Tied X ops outs s r p.1 := ⟨ho, hlen, fun i o v u hi hu hne => (hgets i o v u hi hu).1 hne, fun i o v u hi hu hw => by
            by_cases hne : i = p.1
            · obtain ⟨f, raw, hm, _⟩ := (hgets i o v u hi hu).2 hne
              exact (MutAt_no hm (noU_noM (noU_opG hw))).elim
            · exact noU_gets ((hgets i o v u hi hu).1 hne) (noU_opG hw), fun i j x y vx ux vy uy hm hx hy hox hoy => by
            obtain ⟨g1, g2⟩ := susOK_spec hok i j hm
            have e1 := logAt_new ops.toList outs 0 s [] i x _ hx hox
            have e2 := logAt_new ops.toList outs 0 s [] j y _ hy hoy
            rw [Nat.zero_add] at e1 e2
            rw [e1, e2] at g1 g2
            exact ⟨g1, g2⟩, dsts_of hd⟩
          exact region_any hE hT (goesM hT hcm fun o v u hi hu => (hgets _ o v u hi hu).2 rfl) hI fun a w β hI' => ⟨rfl, hQ s' a w β hk (by rw [hs']; exact hI')⟩
      | true =>
        rw [hp] at ho h
        simp only [cond_true, Bool.and_eq_true] at ho h
        obtain ⟨hcut, ho⟩ := ho
        have hle := cut_le hcut
        have hps : (ops.toList.take p.1).toArray.size = p.1 := by simp; omega
        have h1 := hold (ops.toList.take p.1).toArray r _ (fun a w => wpOps X.P ops (fun e a w => e = .normal ∧ Q' .normal a w) (List.range' p.1 (ops.size - p.1)) a w) ho (fun i o d hi hdd => by
          have hi : (ops.toList.take p.1)[i]? = some o := hi
          rw [List.getElem?_take] at hi
          split at hi
          · exact dsts_of hd i o d hi hdd
          · cases hi) h (fun s a w β hk hI => by
            have := text_sound (Q := fun e a w => e = .normal ∧ Q' .normal a w) hE (dsts_of hd) (fun s a w β hk hI => ⟨rfl, hQ s a w β hk hI⟩) (ops.toList.drop p.1) p.1 s a w β (fun j _ => by rw [List.getElem?_drop]) hk hI
            rwa [List.length_drop, Array.length_toList] at this)
        rw [hps] at h1
        have h2 := any_pre (Q := fun e a w => e = .normal ∧ Q' .normal a w) hcut (fun e a w h => h.1) (fun a w h => h.2) p.1 _ (Array.replicate ops.size false) a _ (by simp) (by simp) (fun j hj => by simp [Array.getD, hj]) (fun j hj => by simp [Array.getD]) (fun i o _ hL => by
          simp only [Array.getD_eq_getD_getElem?, Array.getElem?_replicate] at hL
          split at hL <;> simp at hL) h1
        rwa [show p.1 + (ops.size - p.1) = ops.size by omega] at h2

theorem panW_at {P : Program} {t i j : Nat} {o1 o2 o3 : Oper} (h : panW P t i j [o1, o2, o3] = true) : o1.op = .build t #[] ∧ o2.op = .makeInterface t (.tmp i) ∧ o3.op = .panic (.tmp j) ∧ o1.dst = some i ∧ o2.dst = some j ∧ o1.guard = none ∧ o2.guard = none ∧ o3.guard = none ∧ P.built t (#[] : Array (Nat × Value)).toList = some #[] ∧ P.concrete t = true := by
  unfold panW at h
  simp only [] at h
  split at h
  · rename_i t1 ps t2 i1 j1 e1 e2 e3
    simp only [Bool.and_eq_true, decide_eq_true_eq, Option.isNone_iff_eq_none] at h
    obtain ⟨⟨⟨rfl, rfl⟩, rfl⟩, rfl, hps, d1, d2, g1, g2, g3, hb, hc⟩ := h
    have hps : ps = #[] := Array.eq_empty_of_size_eq_zero hps
    subst hps
    refine ⟨e1, e2, e3, d1, d2, g1, g2, g3, ?_, hc⟩
    show P.built _ [] = _
    cases hbb : P.built _ [] with
    | none => rw [hbb] at hb; cases hb
    | some cs =>
      rw [hbb] at hb
      have : cs.size = 0 := by simpa using hb
      rw [Array.eq_empty_of_size_eq_zero this]
  · cases h

theorem panW_two {P : Program} {t i j : Nat} {o : Oper} {r : List Oper} (h : panW P t i j (o :: r) = true) : ∃ o2 o3, r = [o2, o3] := by
  match r with
  | [] => cases h
  | [_] => cases h
  | [o2, o3] => exact ⟨o2, o3, rfl⟩
  | _ :: _ :: _ :: _ => cases h
theorem panW_go {ops : Array Oper} {Q : Exit → S → Prop} {Q' : Exit → Act → World → Prop} (hd : ∀ (i : Nat) o d, ops.toList[i]? = some o → o.dst = some d → d < X.n) (hQ : ∀ e s a w β, Q e s → Inv X s a w β → Q' e a w)
    {o : Oper} {r : List Oper} {k : Nat} {s : S} {a : Act} {w : World} {β : Nat → Value} {t i j : Nat} (hl : ∀ j, j < (o :: r).length → (o :: r)[j]? = ops.toList[k + j]?) (ht : panW X.P t i j (o :: r) = true)
    (hp : Q (.panic [{ v := .iface t (.agg #[]), recovered := false }]) ⟨(j, .top) :: (i, .top) :: s.fr, s.bx⟩) (hI : Inv X s a w β) :
    wpOps X.P ops (fun e a w => (e = .normal ∧ Q' .normal a w) ∨ ∃ ch, e = .panic ch ∧ Q' (.panic ch) a w) (List.range' k (o :: r).length) a w := by
  obtain ⟨o2, o3, rfl⟩ := panW_two ht
  obtain ⟨e1, e2, e3, d1, d2, g1, g2, g3, hbt, hct⟩ := panW_at ht
  have hat : ∀ (m : Nat) (x : Oper), [o, o2, o3][m]? = some x → ops[k + m]? = some x := fun m x hm => by
    have := hl m (List.getElem?_eq_some_iff.1 hm).1
    rw [hm, Array.getElem?_toList] at this
    exact this.symm
  have h0 : ops[k]? = some o := hat 0 o rfl
  have h1 : ops[k + 1]? = some o2 := hat 1 o2 rfl
  have h2 : ops[k + 1 + 1]? = some o3 := hat 2 o3 rfl
  have hin : ∀ (m : Nat) (x : Oper) (d : Nat), ops[m]? = some x → x.dst = some d → d < a.tmps.size := fun m x d hm hx => by
    rw [hI.sz]
    exact hd m x d (by rw [Array.getElem?_toList]; exact hm) hx
  have hi := hin _ _ _ h0 d1
  have hj := hin _ _ _ h1 d2
  have hw : ∀ (x : Oper) (b : Act), x.guard = none → Region.wanted x (yielded ops b.tmps) = true := fun x b hg => by simp [Region.wanted, hg]
  rw [show ([o, o2, o3] : List Oper).length = 3 from rfl, List.range'_succ, List.range'_succ, List.range'_succ, wpOps_cons]
  unfold wpOp
  simp only [h0, hw o a g1, if_true]
  refine .inl ?_
  have r1 : (execOp a.eval o).run X.P w = .ok (.value (.agg #[])) w := by
    simp only [execOp, e1]
    have := run_build (P := X.P) w t #[] #[] hbt
    simp [this]
  unfold Oper.wp
  rw [r1, Oper.upon_value, wpOps_cons]
  unfold wpOp
  simp only [h1, hw o2 _ g2, if_true]
  refine .inl ?_
  have v1 : (a.put o.dst (.agg #[])).eval (.tmp i) = .agg #[] := by
    rw [d1]
    show (a.tmps.setIfInBounds i (.agg #[])).getD i undef = _
    simp [Array.getD_eq_getD_getElem?, hi]
  have r2 : (execOp (a.put o.dst (.agg #[])).eval o2).run X.P w = .ok (.value (.iface t (.agg #[]))) w := by
    simp only [execOp, e2, v1]
    have := run_makeInterface (P := X.P) w t (.agg #[]) hct
    simp [this]
  unfold Oper.wp
  rw [r2, Oper.upon_value, wpOps_cons]
  unfold wpOp
  simp only [h2, hw o3 _ g3, if_true]
  refine .inl ?_
  have v2 : ((a.put o.dst (.agg #[])).put o2.dst (.iface t (.agg #[]))).eval (.tmp j) = .iface t (.agg #[]) := by
    rw [d1, d2]
    show ((a.tmps.setIfInBounds i (.agg #[])).setIfInBounds j (.iface t (.agg #[]))).getD j undef = _
    simp [Array.getD_eq_getD_getElem?, hj]
  have r3 : (execOp ((a.put o.dst (.agg #[])).put o2.dst (.iface t (.agg #[]))).eval o3).run X.P w = .halt (.panic (.iface t (.agg #[]))) w := by
    simp only [execOp, e3, v2]
    rfl
  unfold Oper.wp
  rw [r3, Oper.upon_panic]
  refine .inr ⟨_, rfl, hQ _ _ _ w β hp ?_⟩
  rw [d1, d2]
  have hi' : i < X.n := by rw [← hI.sz]; exact hi
  have hj' : j < X.n := by rw [← hI.sz]; exact hj
  exact (hI.putv hi' (.top _)).putv hj' (.top _)

theorem panVC_sound {ops : Array Oper} {Q : Exit → S → Prop} {Q' : Exit → Act → World → Prop} (hE : EnvOK X.P X.E) (hd : ∀ (i : Nat) o d, ops.toList[i]? = some o → o.dst = some d → d < X.n) (hQ : ∀ e s a w β, Q e s → Inv X s a w β → Q' e a w) :
    ∀ (l : List Oper) (k : Nat) (s : S) (a : Act) (w : World) (β : Nat → Value), (∀ j, j < l.length → l[j]? = ops.toList[k + j]?) → PanVC X.P X.E X.pb ops.toList Q l s → Inv X s a w β →
      wpOps X.P ops (fun e a w => (e = .normal ∧ Q' .normal a w) ∨ ∃ ch, e = .panic ch ∧ Q' (.panic ch) a w) (List.range' k l.length) a w
  | [], k, s, a, w, β, _, h, hI => .inl ⟨rfl, hQ _ s a w β h hI⟩
  | o :: r, k, s, a, w, β, hl, h, hI => by
    rcases h with ⟨hg, hp⟩ | ⟨t, i, j, ht, hp⟩ | h
    · have ho : ops[k]? = some o := by
        have := hl 0 (by simp)
        rw [Nat.add_zero, Array.getElem?_toList (xs := ops)] at this
        rw [← this]; rfl
      rw [List.length_cons, List.range'_succ, wpOps_cons]
      unfold wpOp
      have hw : Region.wanted o (yielded ops a.tmps) = true := by simp [Region.wanted, hg]
      simp only [ho, hw, if_true]
      refine .inl ?_
      unfold panO at hp
      split at hp
      · rename_i x hop
        unfold panK at hp
        split at hp
        · rename_i t v hx
          have hv := hI.ev x
          rw [hx] at hv
          have hev : a.eval x = .iface t v := by
            generalize a.eval x = vv at hv
            cases hv.to_c; rfl
          have hrun : (execOp a.eval o).run X.P w = .halt (.panic (.iface t v)) w := by
            simp only [execOp, hop, hev]
            rfl
          unfold Oper.wp
          rw [hrun, Oper.upon_panic]
          exact .inr ⟨_, rfl, hQ _ s a w β hp hI⟩
        · exact hp.elim
      · rename_i f args ts hop
        split at hp
        · rename_i g
          obtain ⟨args0, bx0, ch, φ, σ, kf, kb, hok, ⟨h1, h2, h3, h4, h5, h6⟩, hK⟩ := hp
          obtain ⟨hcall, hcalls⟩ := callP_sound (vals := args.map a.eval) hI φ σ kf kb hok h1 h2 h3 h4 h5 h6 (fun bx hI2 => by
            refine ⟨by simp, fun j av hj => ?_⟩
            rw [List.getElem?_map] at hj
            cases hx : args.toList[j]? with
            | none => rw [hx] at hj; cases hj
            | some x =>
              rw [hx] at hj
              simp only [Option.map_some, Option.some.injEq] at hj
              subst hj
              have hlt : j < args.size := by
                have := (List.getElem?_eq_some_iff.1 hx).1
                simpa using this
              have hxe : args[j] = x := by
                rw [Array.getElem?_toList] at hx
                rw [Array.getElem?_eq_getElem hlt] at hx
                injection hx
              have e1 : (args.map a.eval).getD j undef = a.eval x := by
                simp [Array.getD_eq_getD_getElem?, hlt, hxe]
              rw [e1]
              exact hI2.ev x)
          unfold Oper.wp
          rw [run_enter hcall hop rfl, Oper.upon_enter]
          refine hcalls.mono fun e w' hh => ?_
          obtain ⟨rfl, hI'⟩ := hh
          exact .inr ⟨_, rfl, hQ _ _ a w' β hK hI'⟩
        · exact hp.elim
      · exact hp.elim
    · exact panW_go hd hQ hl ht hp hI
    · exact ops_mono (Q0 := fun e a w => e = .normal ∧ Q' .normal a w) (fun e a w h => ⟨h.1, .inl ⟨rfl, h.2⟩⟩) _ _ _ (text_sound (Q := fun e a w => e = .normal ∧ Q' .normal a w) hE hd (fun s a w β hk hI => ⟨rfl, hQ _ s a w β hk hI⟩) (o :: r) k s a w β hl h hI)

theorem region_soundP {r : Option Nat} {n : Nat} {id : Nat} {ops : Array Oper} {dr : Bool} {L : Sus} {Q : Exit → S → Prop} {Q' : Exit → Act → World → Prop} (hE : EnvOK X.P X.E) (hm : X.P.follows .mixedOrders = true) (hnd : r = none ∨ calmB (.region id ops dr) = true) (hc : codeB X.n L (.region id ops dr) = true)
    (h : cond dr (vcD X.P X.E X.pb ops.toList (Q .normal) s (susOf id L)) (vcP X.P X.E X.pb ops.toList Q s (susOf id L))) (hI : Inv X s a w β) (hQ : ∀ e s a w β, Q e s → Inv X s a w β → Q' e a w) : (Code.region id ops dr).wpIn (fenceR r) n X.P Q' a w := by
  cases dr with
  | true => exact region_sound (K := Q .normal) hE hm hnd hc h hI fun s a w β => hQ .normal s a w β
  | false =>
    simp only [cond_false] at h
    cases hs : susOf id L with
    | nil =>
      rw [hs] at h
      exact region_sound (K := Q .normal) hE hm hnd hc (by simp only [cond_false]; exact h) hI fun s a w β => hQ .normal s a w β
    | cons p rest =>
      rw [hs] at h
      simp only [codeB, Bool.and_eq_true, Bool.or_eq_true] at hc
      obtain ⟨hd, _⟩ := hc
      have hnd' : r = none ∨ ∀ o ∈ ops.toList, notDefer o.op = true := hnd.imp (fun h => h) fun h => List.all_eq_true.1 h
      have h : vcOps X.P X.E (some X.pb) ops.toList (PanVC X.P X.E X.pb ops.toList Q (ops.toList.drop p.1)) (ops.toList.take p.1) s := h
      refine wpIn_region (ops_inP (Q0 := fun e a w => (e = .normal ∧ Q' .normal a w) ∨ ∃ ch, e = .panic ch ∧ Q' (.panic ch) a w) hnd' (fun e a w h => h.imp (fun h => h.1) fun h => h) (fun a w h => by
        rcases h with h | ⟨_, h, _⟩
        · exact h.2
        · cases h) _ _ _ ?_)
      have hr : List.range ops.size = List.range' 0 (ops.toList.take p.1).length ++ List.range' (ops.toList.take p.1).length (ops.toList.drop p.1).length := by
        have e1 : (ops.toList.take p.1).length + (ops.toList.drop p.1).length = ops.size := by
          rw [← List.length_append, List.take_append_drop, Array.length_toList]
        rw [List.range_eq_range', ← e1, ← List.range'_append_1, Nat.zero_add]
      rw [hr]
      refine ops_cut (Q0 := fun e a w => e = .normal ∧ wpOps X.P ops (fun e a w => (e = .normal ∧ Q' .normal a w) ∨ ∃ ch, e = .panic ch ∧ Q' (.panic ch) a w) (List.range' (ops.toList.take p.1).length (ops.toList.drop p.1).length) a w) (fun e a w h => h.1) (fun a w h => h.2) _ _ _
        (text_sound hE (dsts_of hd) (fun s a w β hk hI => ⟨rfl, panVC_sound hE (dsts_of hd) hQ _ _ s a w β (fun j hj => ?_) hk hI⟩) _ 0 s a w β (fun j hj => ?_) h hI)
      · rw [Nat.zero_add, List.getElem?_take, if_pos]
        rw [List.length_take] at hj
        omega
      · rw [List.getElem?_drop]
        congr 1
        have : 0 < (ops.toList.drop p.1).length := by omega
        rw [List.length_drop] at this
        rw [List.length_take]
        omega

theorem rounds_in {F : Fence} {n : Nat} {P : Program} {c : Code} {Q : Exit → Act → World → Prop} {I : Act → World → Nat → Prop} (h : ∀ k a w, I a w k → c.wpIn F n P (Exit.then (fun a' w' => ∃ j, j < k ∧ I a' w' j) Q) a w) {k : Nat} {a : Act} {w : World} (h0 : I a w k) :
    (Code.loop c).wpIn F n P Q a w := by
  intro b kk cs hro hb hr
  have key : ∀ k a w, I a w k → ∃ e a' w', Q e a' w' ∧ ArrivesIn (Machine.fenced P F) P (lone (b.atR a (.code c :: .inLoop c :: kk)) cs w) b kk cs e a' w' := by
    intro k
    induction k using Nat.strongRecOn with
    | _ k ih =>
      intro a w hI
      obtain ⟨e, a₁, w₁, hq, harr⟩ := h k a w hI b (.inLoop c :: kk) cs hro hb hr
      cases e with
      | normal =>
        obtain ⟨j, hlt, hI₁⟩ := hq
        obtain ⟨e₂, a₂, w₂, hq₂, harr₂⟩ := ih j hlt a₁ w₁ hI₁
        exact ⟨e₂, a₂, w₂, hq₂, .of_steps (StepsIn.trans harr (.one (fenced_calm hb hr rfl) stepR_inLoop)) harr₂⟩
      | exit id => exact ⟨_, a₁, w₁, hq, .pass (x := .inLoop c) rfl (fun _ _ => .inl (by simp)) harr⟩
      | goto l => exact ⟨_, a₁, w₁, hq, .pass (x := .inLoop c) rfl (fun _ _ => .inl (by simp)) harr⟩
      | ret => exact ⟨_, a₁, w₁, hq, .pass (x := .inLoop c) rfl (fun _ _ => .inl (by simp)) harr⟩
      | panic ch => exact ⟨_, a₁, w₁, hq, .pass (x := .inLoop c) rfl (fun _ _ => .inl (by simp)) harr⟩
      | outgrown => exact ⟨_, a₁, w₁, hq, .pass (x := .inLoop c) rfl (fun _ _ => .inl (by simp)) harr⟩
  obtain ⟨e, a', w', hq, harr⟩ := key k a w h0
  exact ⟨e, a', w', hq, .of_steps (.one (fenced_calm hb hr rfl) stepR_loop) harr⟩

/-- whole bodies -/
theorem vc_sound {P : Program} {E : Env} (hE : EnvOK P E) (hm : P.follows .mixedOrders = true) (L : Sus) : ∀ (c : Code) (r : Option Nat) (n : Nat) (Q : Exit → S → Prop) (Q' : Exit → Act → World → Prop) {X : Ctx} {s : S} {a : Act} {w : World} {β : Nat → Value}, X.P = P → X.E = E → (r = none ∨ calmB c = true) → codeB X.n L c = true → vc P E L X.pb c Q s → Inv X s a w β →
    (∀ e X' s a w β, Later X X' → Q e s → Inv X' s a w β → Q' e a w) → c.wpIn (fenceR r) n P Q' a w
  | .skip, r, n, Q, Q', X, s, a, w, β, hP, hEE, _, _, h, hI, hQ => wpIn_skip (hQ .normal X s a w β (Later.refl X) h hI)
  | .region id ops dr, r, n, Q, Q', X, s, a, w, β, hP, hEE, hd, hc, h, hI, hQ => by
    subst hP; subst hEE
    exact region_soundP hE hm hd hc h hI fun e s a w β => hQ e X s a w β (Later.refl X)
  | .seq x y, r, n, Q, Q', X, s, a, w, β, hP, hEE, hd, hc, h, hI, hQ => by
    simp only [codeB, Bool.and_eq_true] at hc
    have hd1 : r = none ∨ calmB x = true := hd.imp (fun h => h) fun h => by simp only [calmB, Bool.and_eq_true] at h; exact h.1
    have hd2 : r = none ∨ calmB y = true := hd.imp (fun h => h) fun h => by simp only [calmB, Bool.and_eq_true] at h; exact h.2
    refine wpIn_seq (vc_sound hE hm L x r n _ _ hP hEE hd1 hc.1 h hI fun e X' s a w β hL hq hI => ?_)
    cases e with
    | normal => exact vc_sound hE hm L y r n Q Q' (hL.P.trans hP) (hL.E.trans hEE) hd2 (by rw [hL.n]; exact hc.2) (by rw [hL.pb]; exact hq) hI fun e X2 s a w β hL2 => hQ e X2 s a w β (hL.trans hL2)
    | exit i => exact hQ _ X' s a w β hL hq hI
    | goto l => exact hQ _ X' s a w β hL hq hI
    | ret => exact hQ _ X' s a w β hL hq hI
    | panic ch => exact hQ _ X' s a w β hL hq hI
    | outgrown => exact hQ _ X' s a w β hL hq hI
  | .cond c x y, r, n, Q, Q', X, s, a, w, β, hP, hEE, hd, hc, h, hI, hQ => by
    simp only [codeB, Bool.and_eq_true] at hc
    have hd1 : r = none ∨ calmB x = true := hd.imp (fun h => h) fun h => by simp only [calmB, Bool.and_eq_true] at h; exact h.1
    have hd2 : r = none ∨ calmB y = true := hd.imp (fun h => h) fun h => by simp only [calmB, Bool.and_eq_true] at h; exact h.2
    simp only [vc] at h
    unfold condA at h
    split at h
    · rename_i t ht
      have hv := hI.ev c
      rw [ht] at hv
      have hev : a.eval c = .bool t := by
        generalize a.eval c = vv at hv
        cases hv.to_c; rfl
      refine wpIn_cond hev ?_
      cases t with
      | true => exact vc_sound hE hm L x r n Q Q' hP hEE hd1 hc.1 h hI hQ
      | false => exact vc_sound hE hm L y r n Q Q' hP hEE hd2 hc.2 h hI hQ
    · exact h.elim
  | .block id c, r, n, Q, Q', X, s, a, w, β, hP, hEE, hd, hc, h, hI, hQ => by
    simp only [codeB] at hc
    refine wpIn_block (vc_sound hE hm L c r n _ _ hP hEE hd hc h hI fun e X' s a w β hL hq hI => ?_)
    cases e with
    | normal => exact hQ _ X' s a w β hL hq hI
    | exit i =>
      simp only [blockQ] at hq
      simp only [Exit.inBlock]
      by_cases hi : i = id
      · rw [if_pos hi]
        rw [show (i == id) = true from by simpa using hi] at hq
        exact hQ _ X' s a w β hL hq hI
      · rw [if_neg hi]
        rw [show (i == id) = false from by simpa using hi] at hq
        exact hQ _ X' s a w β hL hq hI
    | goto l => exact hQ _ X' s a w β hL hq hI
    | ret => exact hQ _ X' s a w β hL hq hI
    | panic ch => exact hQ _ X' s a w β hL hq hI
    | outgrown => exact hQ _ X' s a w β hL hq hI
  | .loop c, r, n, Q, Q', X, s, a, w, β, hP, hEE, hd, hc, h, hI, hQ => by
    simp only [codeB] at hc
    obtain ⟨Y, inv, st, μ, Q2, ⟨y0, he, hy0⟩, hQ2, hround⟩ := h
    have henter : ∀ {X' : Ctx} {s s' : S} {a : Act} {w : World} {β : Nat → Value}, Later X X' → Enter E X.pb s s' → Inv X' s a w β → ∃ β', Inv X' s' a w β' := fun {X' s s' a w β} hL he hI =>
      Enter.inv (X := X') (by rw [hL.P, hL.E, hP, hEE]; exact hE) (by rw [hL.E, hL.pb, hEE]; exact he) hI
    have hQ : ∀ e X' s a w β, Later X X' → Q2 e s → Inv X' s a w β → Q' e a w := fun e X' s a w β hL hq hI => by
      rcases hQ2 e s hq with hq | ⟨s', he, hq⟩
      · exact hQ e X' s a w β hL hq hI
      · obtain ⟨β', hI'⟩ := henter hL he hI
        exact hQ e X' s' a w β' hL hq hI'
    obtain ⟨β', hI'⟩ := henter (Later.refl X) he hI
    refine rounds_in (I := fun a w k => ∃ y X' β, μ y = k ∧ inv y ∧ Later X X' ∧ Inv X' (st y) a w β) ?_ (k := μ y0) ⟨y0, X, β', rfl, hy0, Later.refl X, hI'⟩
    rintro k a w ⟨y, X', β, rfl, hy, hL, hI⟩
    refine vc_sound hE hm L c r n _ _ (hL.P.trans hP) (hL.E.trans hEE) hd (by rw [hL.n]; exact hc) (by rw [hL.pb]; exact hround y hy) hI fun e X2 s a w β hL2 hq hI => ?_
    cases e with
    | normal =>
      obtain ⟨y', he', hy', hlt⟩ := hq
      obtain ⟨β', hI'⟩ := henter (hL.trans hL2) he' hI
      exact ⟨_, hlt, y', X2, β', rfl, hy', hL.trans hL2, hI'⟩
    | exit i => exact hQ _ X2 s a w β (hL.trans hL2) hq hI
    | goto l => exact hQ _ X2 s a w β (hL.trans hL2) hq hI
    | ret => exact hQ _ X2 s a w β (hL.trans hL2) hq hI
    | panic ch => exact hQ _ X2 s a w β (hL.trans hL2) hq hI
    | outgrown => exact hQ _ X2 s a w β (hL.trans hL2) hq hI
  | .rangeFunc g ps as c, r, n, Q, Q', X, s, a, w, β, hP, hEE, hd, hc, h, hI, hQ => by
    have hr : r = none := by
      rcases hd with hd | hd
      · exact hd
      · simp [calmB] at hd
    subst hr
    simp only [codeB, Bool.and_eq_true] at hc
    obtain ⟨⟨⟨hcalma, hca⟩, hcalm⟩, hps, hc⟩ := hc
    subst hP; subst hEE
    refine range_sound (A := fun pb' K => vc X.P X.E L pb' as (onlyN K)) (W := fun pb' => vc X.P X.E L pb' c) hE (fun Xb l m Qb Q'' {s a w β} hPb hEb hnb hw hIb hQb => ?_) (fun Xb l m K Q'' {s a w β} hPb hEb hnb hw hIb hQb => ?_) (fun p hp => by simpa using List.all_eq_true.1 hps p hp) h hI hQ
    · exact vc_sound hE hm L c (some l) m Qb Q'' hPb hEb (.inr hcalm) (by rw [hnb]; exact hc) hw hIb hQb
    · refine vc_sound hE hm L as (some l) m (onlyN K) Q'' hPb hEb (.inr hcalma) (by rw [hnb]; exact hca) hw hIb fun e X' s a w β hL hq hI => ?_
      cases e with
      | normal => exact hQb X' s a w β hL hq hI
      | exit i => exact hq.elim
      | goto t => exact hq.elim
      | ret => exact hq.elim
      | panic ch => exact hq.elim
      | outgrown => exact hq.elim
  | .exit i, r, n, Q, Q', X, s, a, w, β, _, _, _, _, h, hI, hQ => wpIn_exit (hQ _ X s a w β (Later.refl X) h hI)
  | .ret, r, n, Q, Q', X, s, a, w, β, _, _, _, _, h, hI, hQ => wpIn_ret (hQ _ X s a w β (Later.refl X) h hI)
  | .scope _, _, _, _, _, _, _, _, _, _, _, _, _, _, h, _, _ => h.elim
  | .label _, _, _, _, _, _, _, _, _, _, _, _, _, _, h, _, _ => h.elim
  | .goto _, _, _, _, _, _, _, _, _, _, _, _, _, _, h, _, _ => h.elim
  | .refuse _, _, _, _, _, _, _, _, _, _, _, _, _, _, h, _, _ => h.elim

end

/-! ### contracts -/
inductive LenD : D → Prop
  | sc (v : Value) : LenD (.sc v)
  | sl (xs : List (List D)) (h : xs.length ≤ maxLen) (h' : ∀ x ∈ xs, ∀ d ∈ x, LenD d) : LenD (.sl xs)
def LenA : AV → Prop
  | .c d => LenD d
  | .ag ds => ∀ d ∈ ds, LenD d
  | .ip ds => ∀ d ∈ ds, LenD d
  | _ => True
theorem Rp.nilD {w : World} {M : Nat → Prop} {v : Value} {d : D} (h : Rp w M v d) : Rp w M v (nilD d) := by
  unfold Go.Vx.nilD
  split
  · cases h
    exact Rp.nil w M
  · exact h
theorem Rp.len {w : World} {M : Nat → Prop} {v : Value} {d : D} (h : Rp w M v d) : LenD d := by
  induction h with
  | sc v _ => exact .sc v
  | sl A c size xs cell hc hm h0 hsz hA hr ih =>
    refine .sl xs (Nat.le_trans hc hm) fun x hx d hd => ?_
    obtain ⟨i, hi⟩ := List.getElem?_of_mem hx
    obtain ⟨j, hj⟩ := List.getElem?_of_mem hd
    exact ih i x j d hi hj
theorem RV.len {w : World} {M : Nat → Prop} {β : Nat → Value} {lk : Nat → Box} {v : Value} {av : AV} (h : RV w M β lk v av) : LenA av := by
  cases h with
  | c v d h => exact h.len
  | ag cs ds hs h =>
    intro d hd
    obtain ⟨j, hj⟩ := List.getElem?_of_mem hd
    exact (h j d hj).len
  | ip ad ds cell hb hM hcell h =>
    intro d hd
    obtain ⟨j, hj⟩ := List.getElem?_of_mem hd
    exact (h j d hj).len
  | _ => trivial

theorem look_frOf : ∀ (args : List AV) (i j : Nat), look j (frOf i args) = if i ≤ j then (args[j - i]?).getD .top else .top
  | [], i, j => by simp [frOf, look]
  | v :: r, i, j => by
    rw [frOf, look_cons, look_frOf r (i + 1) j]
    by_cases h : j = i
    · subst h; simp
    · rw [if_neg h]
      by_cases h1 : i ≤ j
      · rw [if_pos (by omega), if_pos h1, show j - i = (j - (i + 1)) + 1 by omega, List.getElem?_cons_succ]
      · rw [if_neg (by omega), if_neg h1]

section
variable {X : Ctx} {s : S} {a : Act} {w : World} {β : Nat → Value}

theorem MM_frz {bx : List (Nat × Box)} {u : Upd} (hu : FrzL bx u) {k : Nat} (h : MM X (lookB · (u ++ bx)) β k) : MM X (lookB · bx) β k := by
  rcases h with h | ⟨id, hl, hb⟩
  · exact .inl h
  · exact .inr ⟨id, (live_frz hu hl).1, hb⟩

def updO {α : Type} : Option (α × Upd) → Upd
  | some p => p.2
  | none => []
/-- what is frozen of a result that is handed back by value -/
def fzU (bx : List (Nat × Box)) (v : AV) : AV → Upd
  | .c _ => updO (toD bx v)
  | .ag _ => updO (retA bx v)
  | _ => []

/-- one result: by value of what is frozen, or fresh -/
theorem Ret1.res {B : Nat} (hown : ∀ k, X.own k → B ≤ k) {v : Value} {av r : AV} {uT : Upd} {M : Nat → Prop} (h : Inv X s a w β) (hv : RV w (MM X (lookB · s.bx) β) β (lookB · s.bx) v av) (hr : Ret1 X.E s.bx av r) (hE : EnvOK X.P X.E)
    (huT : FrzL s.bx uT) (hsub : ∀ q ∈ fzU s.bx av r, q ∈ uT) (hM : ∀ k, M k → MM X (lookB · (uT ++ s.bx)) β k) : ResV X.E w B M v r := by
  have hkM : ∀ {v d}, Rp w (MM X (lookB · (uT ++ s.bx)) β) v d → Rp w M v d := fun hh => hh.keep fun k _ hn => ⟨rfl, fun hm => hn (hM k hm)⟩
  have hkS : ∀ {v d}, Rp w (MM X (lookB · s.bx) β) v d → Rp w M v d := fun hh => hkM (frz_mono (u' := []) huT (by simp) hh)
  cases r with
  | c d =>
    simp only [Ret1] at hr
    cases ht : toD s.bx av with
    | none => rw [ht] at hr; exact hr.elim
    | some p =>
      rw [ht] at hr
      have hr : p.1 = d := hr
      subst hr
      obtain ⟨h1, h2⟩ := toD_sound h hv ht
      exact hkM (frz_mono huT (fun q hq => hsub q (by simp only [fzU, ht, updO]; exact hq)) h2)
  | ag ds =>
    simp only [Ret1] at hr
    cases ht : retA s.bx av with
    | none => rw [ht] at hr; exact hr.elim
    | some p =>
      rw [ht] at hr
      have hr : p.1 = ds := hr
      subst hr
      cases av <;> simp only [retA] at ht <;> try (cases ht; done)
      · simp only [Option.some.injEq] at ht
        subst ht
        cases hv with
        | ag cs _ hs hh =>
          refine ⟨cs, rfl, by rw [List.length_map]; exact hs, fun j d hd => ?_⟩
          rw [List.getElem?_map] at hd
          obtain ⟨d0, hd0, rfl⟩ := Option.map_eq_some_iff.1 hd
          exact (hkS (hh j d0 hd0)).nilD
      · rename_i vs
        obtain ⟨g1, g2⟩ := toDs_sound (av := .agv vs) (ds := p.1) (u := p.2) h hv (by unfold toDs; exact ht)
        cases hv with
        | agv cs _ hs _ hh =>
          exact ⟨cs, rfl, g2.1, fun j d hd => hkM (frz_mono huT (fun q hq => hsub q (by simp only [fzU, retA, ht, updO]; exact hq)) (g2.2 j d hd))⟩
  | fr e xs =>
    simp only [Ret1] at hr
    unfold RetF at hr
    split at hr
    · rename_i id ver
      cases hv with
      | osl _ _ _ h1 hok =>
        have hbox := h.box id
        cases hb : lookB id s.bx <;> rw [hb] at hr hok hbox <;> simp only [RetB] at hr <;> try (exact hr.elim)
        obtain ⟨rfl, rfl, rfl⟩ := hr
        have hvβ := hok.2 rfl
        subst hvβ
        obtain ⟨te, flat, e1, e2, e3, e4, e5, e6⟩ := hbox
        refine ⟨te, flat, e1, e2, e3, ⟨e4.1, ?_⟩, fun i x j d hx hd => hkS (e6 i x j d hx hd)⟩
        rcases e4.2 with hn | ⟨g, cap, cur, hv, _, rest⟩
        · exact .inl hn
        · exact .inr ⟨g, cap, cur, hv, hown g (e5 g (by rw [hv]; rfl)), rest⟩
    · obtain ⟨rfl, hE'⟩ := hr
      cases hT : X.E e with
      | none => rw [hT] at hE'; cases hE'
      | some te =>
        have hvn : v = .slice none 0 0 := by cases hv.to_c; rfl
        subst hvn
        exact ⟨te, [], hT, (hE e te hT).pos, by simp, World.ownsRow_nil w _ _ _, fun i x j d hx => by simp at hx⟩
    · exact hr.elim
  | _ => exact hr.elim

theorem RetL_sound {B : Nat} (hown : ∀ k, X.own k → B ≤ k) {uT : Upd} {M : Nat → Prop} (h : Inv X s a w β) (hE : EnvOK X.P X.E) (huT : FrzL s.bx uT) (hM : ∀ k, M k → MM X (lookB · (uT ++ s.bx)) β k) : ∀ (ts : List Nat) (rs : List AV), RetL X.E s.bx (ts.map (look · s.fr)) rs →
    (∀ (j : Nat) t r, ts[j]? = some t → rs[j]? = some r → ∀ q ∈ fzU s.bx (look t s.fr) r, q ∈ uT) → ts.length = rs.length ∧ ∀ (j : Nat) t r, ts[j]? = some t → rs[j]? = some r → ResV X.E w B M (a.tmps.getD t undef) r
  | [], [], _, _ => ⟨rfl, fun j t r hj => by simp at hj⟩
  | [], _ :: _, hr, _ => hr.elim
  | _ :: _, [], hr, _ => hr.elim
  | t :: ts, r :: rs, hr, hs => by
    obtain ⟨h1, h2⟩ := RetL_sound hown h hE huT hM ts rs hr.2 fun j t r hj hrj => hs (j + 1) t r (by simpa using hj) (by simpa using hrj)
    refine ⟨by simp [h1], fun j t' r' hj hrj => ?_⟩
    cases j with
    | zero =>
      simp only [List.getElem?_cons_zero, Option.some.injEq] at hj hrj
      subst hj; subst hrj
      exact Ret1.res hown h (h.fr t) hr.1 hE huT (hs 0 t r rfl rfl) hM
    | succ j => exact h2 j t' r' (by simpa using hj) (by simpa using hrj)

/-- all that is frozen of what is handed back by value -/
def frzU (bx : List (Nat × Box)) : List AV → List AV → Upd
  | v :: vs, r :: rs => fzU bx v r ++ frzU bx vs rs
  | _, _ => []
theorem frzU_ids {bx : List (Nat × Box)} : ∀ {vs rs : List AV} {q : Nat × Box}, q ∈ frzU bx vs rs → q.1 ∈ frzIds bx vs rs
  | [], _, q, h => by simp [frzU] at h
  | v :: vs, [], q, h => by simp [frzU] at h
  | v :: vs, r :: rs, q, h => by
    simp only [frzU, List.mem_append] at h
    cases r with
    | c d =>
      simp only [frzIds, List.mem_append, fzU] at h ⊢
      rcases h with h | h
      · left
        cases ht : toD bx v with
        | none => rw [ht] at h; simp [updO] at h
        | some p =>
          rw [ht] at h
          simp only [toDK, keysU_map]
          exact List.mem_map_of_mem (f := (·.1)) h
      · exact .inr (frzU_ids h)
    | ag ds =>
      simp only [frzIds, List.mem_append, fzU] at h ⊢
      rcases h with h | h
      · left
        cases ht : retA bx v with
        | none => rw [ht] at h; simp [updO] at h
        | some p =>
          rw [ht] at h
          simp only [toDKs, keysU_map]
          exact List.mem_map_of_mem (f := (·.1)) h
      · exact .inr (frzU_ids h)
    | _ =>
      simp only [fzU, List.not_mem_nil, false_or] at h
      have := frzU_ids h
      simp only [frzIds]
      exact this
theorem frzU_sub {bx : List (Nat × Box)} : ∀ {vs rs : List AV} (j : Nat) v r, vs[j]? = some v → rs[j]? = some r → ∀ q ∈ fzU bx v r, q ∈ frzU bx vs rs
  | [], _, j, v, r, h, _, q, _ => by simp at h
  | v0 :: vs, [], j, v, r, _, h, q, _ => by simp at h
  | v0 :: vs, r0 :: rs, 0, v, r, h1, h2, q, hq => by
    simp only [List.getElem?_cons_zero, Option.some.injEq] at h1 h2
    subst h1; subst h2
    exact List.mem_append_left _ hq
  | v0 :: vs, r0 :: rs, j + 1, v, r, h1, h2, q, hq =>
    List.mem_append_right _ (frzU_sub (vs := vs) (rs := rs) j v r (by simpa using h1) (by simpa using h2) q hq)
theorem fzU_frz (bx : List (Nat × Box)) (v r : AV) : FrzL bx (fzU bx v r) := by
  cases r <;> simp only [fzU] <;> try (exact frz_nil _)
  · cases ht : toD bx v with
    | none => exact frz_nil _
    | some p => exact frzL_of_toD (d := p.1) (u := p.2) ht
  · cases v <;> simp only [retA, updO] <;> try (exact frz_nil _)
    rename_i vs
    have key : ∀ (vs : List AV) p, toDL bx vs = some p → FrzL bx p.2 := by
      intro vs
      induction vs with
      | nil =>
        intro p hp
        simp only [toDL, Option.some.injEq] at hp
        subst hp; exact frz_nil _
      | cons x r ih =>
        intro p hp
        simp only [toDL] at hp
        cases h1 : toD bx x with
        | none => rw [h1] at hp; cases hp
        | some q =>
          cases h2 : toDL bx r with
          | none => rw [h1, h2] at hp; cases hp
          | some q' =>
            rw [h1, h2] at hp
            simp only [and2D, Option.some.injEq] at hp
            subst hp
            exact (frzL_of_toD (d := q.1) (u := q.2) h1).append (ih q' h2)
    cases ht : toDL bx vs with
    | none => exact frz_nil _
    | some p => exact key vs p ht
theorem frzU_frz : ∀ (ts : List Nat) (rs : List AV), FrzL s.bx (frzU s.bx (ts.map (look · s.fr)) rs)
  | [], rs => by simp only [List.map_nil, frzU]; exact frz_nil _
  | t :: ts, [] => by simp only [List.map_cons, frzU]; exact frz_nil _
  | t :: ts, r :: rs => (fzU_frz _ _ _).append (frzU_frz ts rs)

theorem frIds_mem : ∀ {ts : List Nat} {rs : List AV} (j : Nat) t id ver e xs, ts[j]? = some t → rs[j]? = some (.fr e xs) → look t s.fr = .osl id ver → id ∈ frIds (ts.map (look · s.fr)) rs
  | [], _, j, t, id, ver, e, xs, h, _, _ => by simp at h
  | _ :: _, [], j, t, id, ver, e, xs, _, h, _ => by simp at h
  | t0 :: ts, r0 :: rs, 0, t, id, ver, e, xs, h1, h2, h3 => by
    simp only [List.getElem?_cons_zero, Option.some.injEq] at h1 h2
    subst h1; subst h2
    simp only [List.map_cons, h3, frIds]
    exact List.mem_cons_self ..
  | t0 :: ts, r0 :: rs, j + 1, t, id, ver, e, xs, h1, h2, h3 => by
    have := frIds_mem (ts := ts) (rs := rs) j t id ver e xs (by simpa using h1) (by simpa using h2) h3
    simp only [List.map_cons]
    unfold frIds
    split
    · rename_i i' v' vs' e' x' rs' he1 he2
      injection he1 with _ he1
      injection he2 with _ he2
      subst he1; subst he2
      exact List.mem_cons_of_mem _ this
    · rename_i vs' v' rs' hne he1 he2
      injection he1 with _ he1
      injection he2 with _ he2
      subst he1; subst he2
      exact this
    · rename_i hne
      exact (hne _ _ _ _ rfl rfl).elim

end

def resV (ts : List Nat) (tmps : Array Value) : Value :=
  match ts with
  | [t] => tmps.getD t undef
  | ts => .tuple (ts.map fun t => tmps.getD t undef).toArray

theorem mapM_tmps {P : Program} {w : World} {tmps : Array Value} {f : ResultVar → Sem Value} (hf : ∀ t, (f (.tmp t)).run P w = .ok (tmps.getD t undef) w) : ∀ ts : List Nat, ((ts.map ResultVar.tmp).mapM f).run P w = .ok (ts.map fun t => tmps.getD t undef) w
  | [] => rfl
  | t :: ts => by
    simp only [List.map_cons, List.mapM_cons, Sem.run_bind, Sem.run_pure, Result.andThen_ok, mapM_tmps hf ts, hf t]

theorem run_results {P : Program} {fn : Func} {ts : List Nat} (h : fn.results.toList = ts.map .tmp) (tmps : Array Value) (w : World) : (results fn tmps).run P w = .ok (resV ts tmps) w := by
  have hr : fn.results = (ts.map ResultVar.tmp).toArray := by rw [← h]
  unfold results
  rw [hr, List.mapM_toArray]
  simp only [Sem.run_bind, Sem.run_map, Sem.run_pure]
  rw [mapM_tmps (tmps := tmps) (fun t => rfl)]
  simp only [Result.andThen_ok, List.size_toArray, List.length_map]
  cases ts with
  | nil => rfl
  | cons t r =>
    cases r with
    | nil => rfl
    | cons t' r => rfl

/-- what is handed back is what is said of it -/
theorem ret_sound {X : Ctx} {s : S} {a : Act} {w : World} {β : Nat → Value} {B : Nat} {M : Nat → Prop} {ts : List Nat} {r : AV} (hE : EnvOK X.P X.E) (hown : ∀ k, X.own k → B ≤ k) (hM : ∀ k, M k → X.M0 k) (hI : Inv X s a w β) :
    RetVC X.E r s.bx (ts.map (look · s.fr)) → ResW X.E w B M (resV ts a.tmps) r := by
  intro hr
  have hmul : ∀ rs, (RetL X.E s.bx (ts.map (look · s.fr)) rs ∧ disjN (frIds (ts.map (look · s.fr)) rs) (frzIds s.bx (ts.map (look · s.fr)) rs) = true) →
      ts.length = rs.length ∧ ∀ (j : Nat) t r, ts[j]? = some t → rs[j]? = some r → ResV X.E w B (fun k => M k ∨ ∃ (j t : Nat) (r : AV), ts[j]? = some t ∧ rs[j]? = some r ∧ isFr r = true ∧ blk (a.tmps.getD t undef) = some k) (a.tmps.getD t undef) r := by
    intro rs hr
    refine RetL_sound hown hI hE (frzU_frz ts rs) ?_ ts rs hr.1 fun j t r hj hrj q hq => ?_
    · rintro k (hk | ⟨j, t, r', hj, hrj, hfr, hbk⟩)
      · exact .inl (hM k hk)
      · cases r' <;> first | (cases hfr; done) | skip
        rename_i e xs
        have hret : RetF X.E e xs s.bx (look t s.fr) := by
          have hg : ∀ (vs rs : List AV), RetL X.E s.bx vs rs → ∀ (j : Nat) v r, vs[j]? = some v → rs[j]? = some r → Ret1 X.E s.bx v r := by
            intro vs
            induction vs with
            | nil => intro rs _ j v r hv; simp at hv
            | cons v0 vs ih =>
              intro rs hrs j v r hv hr
              cases rs with
              | nil => exact hrs.elim
              | cons r0 rs =>
                cases j with
                | zero =>
                  simp only [List.getElem?_cons_zero, Option.some.injEq] at hv hr
                  subst hv; subst hr
                  exact hrs.1
                | succ j => exact ih rs hrs.2 j v r (by simpa using hv) (by simpa using hr)
          exact hg _ _ hr.1 j _ _ (by rw [List.getElem?_map, hj]; rfl) hrj
        have hv := hI.fr t
        unfold RetF at hret
        split at hret
        · rename_i id ver hlk
          rw [hlk] at hv
          have hmem := frIds_mem (s := s) j t id ver e xs hj hrj hlk
          have hnot := disjN_spec hr.2 id hmem
          generalize a.tmps.getD t undef = vv at hv hbk
          cases hv with
          | osl _ _ _ h1 hok =>
            cases hb : lookB id s.bx <;> rw [hb] at hret hok <;> simp only [RetB] at hret <;> try (exact hret.elim)
            obtain ⟨rfl, rfl, rfl⟩ := hret
            have := hok.2 rfl
            subst this
            refine .inr ⟨id, ?_, .of hbk⟩
            show live (lookB id (frzU s.bx (ts.map (look · s.fr)) rs ++ s.bx)) = true
            rw [notkey (fun q hq (e : q.1 = id) => hnot (e ▸ frzU_ids hq)), hb]
            rfl
        · rename_i hlk
          rw [hlk] at hv
          generalize a.tmps.getD t undef = vv at hv hbk
          cases hv.to_c
          cases hbk
        · exact hret.elim
    · exact frzU_sub j _ r (by rw [List.getElem?_map, hj]; rfl) hrj q hq
  have hone : ∀ t, ts = [t] → RetVC X.E r s.bx (ts.map (look · s.fr)) → ResW X.E w B M (resV ts a.tmps) r := by
    intro t hts hr
    subst hts
    have hr1 : Ret1 X.E s.bx (look t s.fr) r := hr
    have hd : disjN (frIds [look t s.fr] [r]) (frzIds s.bx [look t s.fr] [r]) = true := by
      cases r <;> cases look t s.fr <;> simp [frIds, frzIds, disjN, memN]
    obtain ⟨_, hat⟩ := hmul [r] ⟨⟨hr1, trivial⟩, hd⟩
    have := hat 0 t r rfl rfl
    have hcv : ResV X.E w B (fun k => M k ∨ (isFr r = true ∧ blk (a.tmps.getD t undef) = some k)) (a.tmps.getD t undef) r := by
      have hiff : (fun k => M k ∨ ∃ (j t' : Nat) (r' : AV), [t][j]? = some t' ∧ [r][j]? = some r' ∧ isFr r' = true ∧ blk (a.tmps.getD t' undef) = some k) = (fun k => M k ∨ (isFr r = true ∧ blk (a.tmps.getD t undef) = some k)) := by
        funext k
        refine propext ⟨fun h => h.imp id ?_, fun h => h.imp id ?_⟩
        · rintro ⟨j, t', r', h1, h2, h3, h4⟩
          cases j with
          | zero =>
            simp only [List.getElem?_cons_zero, Option.some.injEq] at h1 h2
            subst h1; subst h2
            exact ⟨h3, h4⟩
          | succ j => simp at h1
        · rintro ⟨h3, h4⟩
          exact ⟨0, t, r, rfl, rfl, h3, h4⟩
      rw [hiff] at this
      exact this
    cases r <;> first | exact hcv | (exact hr1.elim)
  cases hts : ts with
  | nil =>
    rw [hts] at hr
    simp only [List.map_nil, RetVC] at hr
    cases r <;> simp only [RetT] at hr <;> try (exact hr.elim)
    rename_i rs
    cases rs with
    | nil => exact ⟨#[], rfl, rfl, fun j r hj => by simp at hj⟩
    | cons _ _ => exact hr.1.elim
  | cons t0 r0 =>
    cases r0 with
    | nil => rw [← hts]; exact hone t0 hts hr
    | cons t1 r1 =>
      have hr' : RetT X.E s.bx (ts.map (look · s.fr)) r := by
        rw [hts] at hr ⊢
        exact hr
      cases r <;> simp only [RetT] at hr' <;> try (exact hr'.elim)
      rename_i rs
      obtain ⟨h1, h2⟩ := hmul rs hr'
      refine ⟨(ts.map fun t => a.tmps.getD t undef).toArray, by rw [hts]; rfl, by simp [h1], fun j r hj => ?_⟩
      have hjt : j < ts.length := by rw [h1]; exact (List.getElem?_eq_some_iff.1 hj).1
      have e1 : ∀ j (hj : j < ts.length), (ts.map fun t => a.tmps.getD t undef).toArray.getD j undef = a.tmps.getD ts[j] undef := fun j hj => by
        simp [Array.getD_eq_getD_getElem?, hj]
      rw [e1 j hjt]
      have := h2 j _ r (List.getElem?_eq_getElem hjt) hj
      have hiff : (fun k => M k ∨ ∃ (j t' : Nat) (r' : AV), ts[j]? = some t' ∧ rs[j]? = some r' ∧ isFr r' = true ∧ blk (a.tmps.getD t' undef) = some k) = (fun k => M k ∨ frBlk rs (ts.map fun t => a.tmps.getD t undef).toArray k) := by
        funext k
        refine propext ⟨fun h => h.imp id ?_, fun h => h.imp id ?_⟩
        · rintro ⟨j, t', r', h1', h2', h3, h4⟩
          have hjl := (List.getElem?_eq_some_iff.1 h1').1
          refine ⟨j, r', h2', h3, ?_⟩
          rw [e1 j hjl]
          rw [List.getElem?_eq_getElem hjl] at h1'
          injection h1' with h1'
          rw [h1']; exact h4
        · rintro ⟨j, r', h2', h3, h4⟩
          have hjl : j < ts.length := by rw [h1]; exact (List.getElem?_eq_some_iff.1 h2').1
          rw [e1 j hjl] at h4
          exact ⟨j, _, r', List.getElem?_eq_getElem hjl, h2', h3, h4⟩
      rw [hiff] at this
      exact this

end Go.Vx
end

section
set_option linter.unusedVariables false
set_option linter.unusedSimpArgs false
namespace Go.Vx
open Go Go.RowKit

/-- where a result lies -/
inductive RS where
  | tmp (t : Nat)
  | cell (t ty : Nat)
def RS.rv : RS → ResultVar
  | .tmp t => .tmp t
  | .cell t ty => .cell t ty
def loadedC : R → Option AV
  | .val v [] => some v
  | _ => none
def loadedB (ti : TI) (off : Nat) : Box → Option AV
  | .cells cs => loadedC (loadC ti (cs.drop off))
  | _ => none
def loadedP (ti : TI) (bx : List (Nat × Box)) : AV → Option AV
  | .bp id off => loadedB ti off (lookB id bx)
  | _ => none
def loadedT (bx : List (Nat × Box)) (p : AV) : Option TI → Option AV
  | some ti => loadedP ti bx p
  | none => none
def outO (E : Env) (s : S) : RS → Option AV
  | .tmp t => some (look t s.fr)
  | .cell t ty => loadedT s.bx (look t s.fr) (E ty)
def consO : Option AV → Option (List AV) → Option (List AV)
  | some v, some l => some (v :: l)
  | _, _ => none
def outL (E : Env) (s : S) : List RS → Option (List AV)
  | [] => some []
  | r :: rs => consO (outO E s r) (outL E s rs)

def resVs : List Value → Value
  | [v] => v
  | vs => .tuple vs.toArray

section
variable {X : Ctx} {s : S} {a : Act} {w : World} {β : Nat → Value}

theorem loaded_cell (h : Inv X s a w β) (hE : EnvOK X.P X.E) {t ty : Nat} {av : AV} (ho : outO X.E s (.cell t ty) = some av) :
    ∃ v, (do loadVar ty (← asAddr (a.tmps.getD t undef))).run X.P w = .ok v w ∧ RV w (MM X (lookB · s.bx) β) β (lookB · s.bx) v av := by
  simp only [outO] at ho
  cases hT : X.E ty with
  | none => rw [hT] at ho; cases ho
  | some ti =>
    rw [hT] at ho
    simp only [loadedT] at ho
    have hrv := h.fr t
    cases hp : look t s.fr <;> rw [hp] at ho hrv <;> simp only [loadedP] at ho <;> try (cases ho; done)
    rename_i id off
    generalize a.tmps.getD t undef = vp at hrv
    cases hrv with
    | bp _ _ g cs hl hb =>
      have hbox := h.box id
      rw [hl] at ho hbox
      obtain ⟨g', el, conc, hb', _, hheap, hsz, hcells⟩ := hbox
      rw [hb] at hb'
      injection hb' with hb'
      injection hb' with hb'
      injection hb' with hb'
      subst hb'
      simp only [loadedB] at ho
      have hg : Gets X.P X.E 0 .dead (loadC ti (cs.drop off)) av [] := by
        cases hr : loadC ti (cs.drop off) with
        | val v u =>
          rw [hr] at ho
          cases u with
          | nil => simp only [loadedC, Option.some.injEq] at ho; exact ⟨ho.symm, rfl⟩
          | cons _ _ => simp [loadedC] at ho
        | _ => rw [hr] at ho; cases ho
      obtain ⟨_, v', hrun, hrv'⟩ := load_box (M := MM X (lookB · s.bx) β) (lk := (lookB · s.bx)) (β := β) hE hT hg ⟨g, off, none⟩ (fun j => conc.getD (off + j) undef) (fun j hj => by
        rw [add_at, cell_of_row w g (off + j) conc el (0, 0) hheap]
        have : off + j < conc.size := by rw [hsz]; rw [List.length_drop] at hj; omega
        simp [Array.getD, this]) (fun j av hj => by
        rw [List.getElem?_drop] at hj
        exact (hcells (off + j) av hj).2)
      refine ⟨v', ?_, hrv'⟩
      have e : (do loadVar ty (← asAddr (.pointer (some ⟨g, off, none⟩)))) = Instr.loadAt ty (.pointer (some ⟨g, off, none⟩)) := rfl
      rw [e]; exact hrun

theorem outs_run (h : Inv X s a w β) (hE : EnvOK X.P X.E) : ∀ (rs : List RS) (avs : List AV), outL X.E s rs = some avs →
    ∃ vals : List Value, vals.length = avs.length ∧ ((rs.map RS.rv).mapM (m := Sem) fun
      | .tmp t => pure (a.tmps.getD t undef)
      | .cell c t => do loadVar t (← asAddr (a.tmps.getD c undef))).run X.P w = .ok vals w ∧ ∀ (j : Nat) v av, vals[j]? = some v → avs[j]? = some av → RV w (MM X (lookB · s.bx) β) β (lookB · s.bx) v av
  | [], avs, ho => by
    simp only [outL, Option.some.injEq] at ho
    subst ho
    exact ⟨[], rfl, rfl, fun j v av hv => by simp at hv⟩
  | r :: rs, avs, ho => by
    simp only [outL] at ho
    cases h1 : outO X.E s r with
    | none => rw [h1] at ho; cases ho
    | some av =>
      cases h2 : outL X.E s rs with
      | none => rw [h1, h2] at ho; cases ho
      | some l =>
        rw [h1, h2] at ho
        simp only [consO, Option.some.injEq] at ho
        subst ho
        obtain ⟨vals, g1, g2, g3⟩ := outs_run h hE rs l h2
        have hv : ∃ v, ((match r.rv with
          | .tmp t => pure (a.tmps.getD t undef)
          | .cell c t => do loadVar t (← asAddr (a.tmps.getD c undef))) : Sem Value).run X.P w = .ok v w ∧ RV w (MM X (lookB · s.bx) β) β (lookB · s.bx) v av := by
          cases r with
          | tmp t =>
            simp only [outO, Option.some.injEq] at h1
            exact ⟨_, rfl, by rw [← h1]; exact h.fr t⟩
          | cell t ty => exact loaded_cell h hE h1
        obtain ⟨v, hv1, hv2⟩ := hv
        refine ⟨v :: vals, by simp [g1], ?_, fun j v' av' hj hj' => ?_⟩
        · simp only [List.map_cons, List.mapM_cons, Sem.run_bind, Sem.run_pure, Result.andThen_ok]
          rw [hv1]
          simp only [Result.andThen_ok, g2]
        · cases j with
          | zero =>
            simp only [List.getElem?_cons_zero, Option.some.injEq] at hj hj'
            subst hj; subst hj'
            exact hv2
          | succ j => exact g3 j v' av' (by simpa using hj) (by simpa using hj')

theorem run_outs {fn : Func} {rs : List RS} (hr : fn.results.toList = rs.map RS.rv) (h : Inv X s a w β) (hE : EnvOK X.P X.E) {avs : List AV} (ho : outL X.E s rs = some avs) :
    ∃ vals : List Value, vals.length = avs.length ∧ (results fn a.tmps).run X.P w = .ok (resVs vals) w ∧ ∀ (j : Nat) v av, vals[j]? = some v → avs[j]? = some av → RV w (MM X (lookB · s.bx) β) β (lookB · s.bx) v av := by
  obtain ⟨vals, g1, g2, g3⟩ := outs_run h hE rs avs ho
  refine ⟨vals, g1, ?_, g3⟩
  have hr' : fn.results = (rs.map RS.rv).toArray := by rw [← hr]
  unfold results
  rw [hr', List.mapM_toArray]
  simp only [Sem.run_bind, Sem.run_map, Sem.run_pure]
  have e : ∀ (m : Sem (List Value)), m.run X.P w = .ok vals w → (Result.andThen (m.run X.P w) fun v w => Result.ok v.toArray w) = .ok vals.toArray w := fun m hm => by rw [hm]; rfl
  refine Eq.trans (congrArg (fun r => Result.andThen r _) (e _ g2)) ?_
  simp only [Result.andThen_ok, List.size_toArray]
  cases vals with
  | nil => rfl
  | cons v r =>
    cases r with
    | nil => rfl
    | cons v' r => rfl

/-- results are laid behind the slots -/
theorem look_app2 : ∀ (l r : List (Nat × AV)) (i : Nat), (∀ p ∈ l, p.1 ≠ i) → look i (l ++ r) = look i r
  | [], r, i, _ => rfl
  | p :: l, r, i, h => by
    rw [List.cons_append, look_cons, if_neg fun e => h p (List.mem_cons_self ..) e.symm]
    exact look_app2 l r i fun q hq => h q (List.mem_cons_of_mem _ hq)
theorem frOf_keys : ∀ (avs : List AV) (n : Nat) (p : Nat × AV), p ∈ frOf n avs → n ≤ p.1 ∧ p.1 < n + avs.length
  | [], n, p, h => by simp [frOf] at h
  | v :: r, n, p, h => by
    rw [frOf] at h
    rcases List.mem_cons.1 h with rfl | h
    · simp
    · have := frOf_keys r (n + 1) p h
      simp only [List.length_cons]; omega
theorem look_frOf_app : ∀ (avs : List AV) (n j : Nat) (r : List (Nat × AV)) (av : AV), avs[j]? = some av → look (n + j) (frOf n avs ++ r) = av
  | [], n, j, r, av, h => by simp at h
  | v :: l, n, 0, r, av, h => by
    simp only [List.getElem?_cons_zero, Option.some.injEq] at h
    subst h
    rw [frOf, List.cons_append, look_cons, if_pos (by omega)]
  | v :: l, n, j + 1, r, av, h => by
    rw [frOf, List.cons_append, look_cons, if_neg (by omega), show n + (j + 1) = n + 1 + j by omega]
    exact look_frOf_app l (n + 1) j r av (by simpa using h)

def Ctx.grow (X : Ctx) (m : Nat) : Ctx := { X with n := X.n + m }
theorem Inv.grow (h : Inv X s a w β) {vals : List Value} {avs : List AV} (hl : vals.length = avs.length) (hv : ∀ (j : Nat) v av, vals[j]? = some v → avs[j]? = some av → RV w (Vx.MM X (lookB · s.bx) β) β (lookB · s.bx) v av) :
    Inv (X.grow avs.length) ⟨frOf X.n avs ++ s.fr, s.bx⟩ { a with tmps := a.tmps ++ vals.toArray } w β := by
  have hb : ∀ id, BoxOK (X.grow avs.length) w (Vx.MM (X.grow avs.length) (lookB · s.bx) β) β (lookB · s.bx) id (lookB id s.bx) := fun id =>
    (h.box id).ctx rfl fun k hl hb => ((h.box id).lt hl hb).2
  refine ⟨h.df, ?_, ⟨h.keep.os, h.keep.tape, h.keep.output, h.keep.size, h.keep.block⟩, h.m0, hb, h.inj, fun i => ?_, h.pin⟩
  · show (a.tmps ++ vals.toArray).size = X.n + avs.length
    rw [Array.size_append, h.sz, List.size_toArray, hl]
  · show RV w (Vx.MM X (lookB · s.bx) β) β (lookB · s.bx) ((a.tmps ++ vals.toArray).getD i undef) (look i (frOf X.n avs ++ s.fr))
    by_cases hi : X.n ≤ i ∧ i < X.n + avs.length
    · have hj : i - X.n < avs.length := by omega
      have e1 := look_frOf_app avs X.n (i - X.n) s.fr _ (List.getElem?_eq_getElem hj)
      rw [show X.n + (i - X.n) = i by omega] at e1
      rw [e1]
      have hjv : i - X.n < vals.length := by omega
      have e2 : (a.tmps ++ vals.toArray).getD i undef = vals[i - X.n] := by
        have hge : a.tmps.size ≤ i := by rw [h.sz]; exact hi.1
        simp only [Array.getD_eq_getD_getElem?, Array.getElem?_append_right hge, h.sz]
        simp [hjv]
      rw [e2]
      exact hv _ _ _ (List.getElem?_eq_getElem hjv) (List.getElem?_eq_getElem hj)
    · rw [look_app2 _ _ _ fun p hp => by have := frOf_keys avs X.n p hp; omega]
      have e2 : (a.tmps ++ vals.toArray).getD i undef = a.tmps.getD i undef := by
        by_cases hlt : i < X.n
        · simp only [Array.getD_eq_getD_getElem?, Array.getElem?_append_left (by rw [h.sz]; exact hlt)]
        · have h1 : (a.tmps ++ vals.toArray).size ≤ i := by
            rw [Array.size_append, h.sz, List.size_toArray, hl]; omega
          have h2 : a.tmps.size ≤ i := by rw [h.sz]; omega
          simp only [Array.getD_eq_getD_getElem?, Array.getElem?_eq_none h1, Array.getElem?_eq_none h2]
      rw [e2]
      exact h.fr i

theorem range_look (avs : List AV) (n : Nat) (r : List (Nat × AV)) : (List.range' n avs.length).map (look · (frOf n avs ++ r)) = avs := by
  refine List.ext_getElem (by simp) fun j h1 h2 => ?_
  simp only [List.length_map, List.length_range'] at h1
  simp only [List.getElem_map, List.getElem_range', Nat.one_mul]
  exact look_frOf_app avs n j r _ (List.getElem?_eq_getElem h1)
theorem range_vals (tmps : Array Value) (n : Nat) (hn : tmps.size = n) (vals : List Value) : resV (List.range' n vals.length) (tmps ++ vals.toArray) = resVs vals := by
  have hat : ∀ j, (tmps ++ vals.toArray).getD (n + j) undef = vals.getD j undef := fun j => by
    have hge : tmps.size ≤ n + j := by omega
    simp only [Array.getD_eq_getD_getElem?, Array.getElem?_append_right hge, hn, Nat.add_sub_cancel_left, List.getD_eq_getElem?_getD]
    simp
  have hmap : (List.range' n vals.length).map (fun t => (tmps ++ vals.toArray).getD t undef) = vals := by
    refine List.ext_getElem (by simp) fun j h1 h2 => ?_
    simp only [List.length_map, List.length_range'] at h1
    simp only [List.getElem_map, List.getElem_range', Nat.one_mul, hat]
    simp [List.getD_eq_getElem?_getD, h1]
  cases vals with
  | nil => rfl
  | cons v r =>
    cases r with
    | nil =>
      have := hat 0
      simp only [List.length_cons, List.length_nil, Nat.zero_add, List.range'_one, resV, resVs]
      simpa using this
    | cons v' r =>
      have hlen : (v :: v' :: r).length = r.length + 2 := rfl
      simp only [hlen] at hmap ⊢
      rw [List.range'_succ, List.range'_succ] at hmap ⊢
      simp only [resV, resVs]
      rw [hmap]

/-! ### the marks are taken off -/
def shut : List Nat → World → World
  | [], w => w
  | D :: ds, w => shut ds (w.putObj D (.deferred none))
theorem shut_meta : ∀ (ds : List Nat) (w : World), (shut ds w).os = w.os ∧ (shut ds w).tape = w.tape ∧ (shut ds w).output = w.output ∧ (shut ds w).heap.size = w.heap.size
  | [], w => ⟨rfl, rfl, rfl, rfl⟩
  | D :: ds, w => by
    obtain ⟨h1, h2, h3, h4⟩ := shut_meta ds (w.putObj D (.deferred none))
    exact ⟨h1, h2, h3, h4.trans World.putObj_size⟩
theorem shut_other : ∀ (ds : List Nat) (w : World) (k : Nat), k ∉ ds → (shut ds w).heap[k]? = w.heap[k]?
  | [], w, k, _ => rfl
  | D :: ds, w, k, h => by
    rw [List.mem_cons, not_or] at h
    rw [shut, shut_other ds _ k h.2, World.putObj_heap_other h.1]

theorem leave_shut {P : Program} {F : Fence} {n : Nat} {fn : Func} {tmps : Array Value} {R : Ending → World → Prop} : ∀ (ds : List Nat) (w : World), ds.Nodup → (∀ D ∈ ds, w.heap[D]? = some (.deferred (some []))) →
    (∃ v, (results fn tmps).run P (shut ds w) = .ok v (shut ds w) ∧ R (.returned v) (shut ds w)) → LeavesInM F n P fn tmps R (ds.map mark) .returning w
  | [], w, _, _, h => h
  | D :: ds, w, hn, hd, h => by
    rw [List.nodup_cons] at hn
    refine ⟨by simp, .inl ⟨D, w.putObj D (.deferred none), rfl, run_takeDeferred (hd D (List.mem_cons_self ..)), ?_⟩⟩
    refine leave_shut ds _ hn.2 (fun D' hD' => ?_) h
    rw [World.putObj_heap_other fun e => hn.1 (by rw [← e]; exact hD')]
    exact hd D' (List.mem_cons_of_mem _ hD')

theorem Inv.shut {X0 : Ctx} (hL : Later X0 X) (h0 : X0.ds = []) (h1 : X0.dt = []) (h : Inv X s a w β) : ∃ X', Later X0 X' ∧ Inv X' s ⟨a.tmps, []⟩ (shut X.ds w) β ∧ X.ds.Nodup ∧ ∀ D ∈ X.ds, w.heap[D]? = some (.deferred (some [])) := by
  obtain ⟨g1, g2, g3, g4⟩ := shut_meta X.ds w
  have hM0 : ∀ k, X.M0 k → k < w.heap.size := fun k hk => Nat.lt_of_lt_of_le (h.m0 k hk).1 h.keep.size
  have hdM : ∀ D ∈ X.ds, X.M0 D := fun D hD => (h.df.2.2 D hD).1
  have hds : ∀ D ∈ X.ds, X0.w0.heap.size ≤ D := fun D hD => by
    rcases hL.ds D hD with hh | hh
    · rw [h0] at hh; cases hh
    · exact hh
  have hXw := hL.world h.keep
  refine ⟨{ X with w0 := Vx.shut X.ds w, ext := fun b => X.own b ∧ b < w.heap.size, ds := [], dt := [] }, ⟨hL.P, hL.E, hL.n, hL.pb, hL.pv, ⟨g1.trans hXw.os, g2.trans hXw.tape, g3.trans hXw.output, ?_, fun k h1 h2 => ?_⟩, fun k hk => ?_, hL.m0, hL.new, fun D hD => (by cases hD), h1.symm⟩, ?_, h.df.2.1, fun D hD => ?_⟩
  · show X0.w0.heap.size ≤ (Vx.shut X.ds w).heap.size
    rw [g4]; exact hXw.size
  · show (Vx.shut X.ds w).heap[k]? = _
    rw [shut_other _ _ _ fun hd => by have := hds k hd; omega]
    exact hXw.block k h1 h2
  · rcases hk with hk | hk
    · have hk : (Vx.shut X.ds w).heap.size ≤ k := hk
      rw [g4] at hk
      exact .inl (Nat.le_trans hXw.size hk)
    · exact hL.own k hk.1
  · refine h.moved (a' := ⟨a.tmps, []⟩) ⟨rfl, by rw [g4]; exact Nat.le_refl _, fun k hk hn => ⟨shut_other _ _ _ fun hd => hn (.inl (hdM k hd)), fun hm => hn hm⟩, fun id k hl hb => ?_⟩ ⟨rfl, List.nodup_nil, fun D hD => by cases hD⟩ rfl rfl (Keep.refl _) (fun k hk => ?_) h.pin
    · obtain ⟨h1, h2⟩ := (h.box id).lt hl hb
      exact ⟨.inr ⟨h2, h1⟩, shut_other _ _ _ fun hd => Ctx.own_m0 h.m0 h2 (hdM k hd)⟩
    · refine ⟨?_, fun he => Ctx.own_m0 h.m0 he.1 hk⟩
      show k < (Vx.shut X.ds w).heap.size
      rw [g4]; exact hM0 k hk
  · obtain ⟨h1, h2⟩ := h.df.2.2 D hD
    obtain ⟨h3, h4⟩ := h.m0 D h1
    rw [h.keep.block D h3 h4]; exact h2

end

/-! ### contracts -/
def retC (E : Env) (rs : List RS) (r : AV) (s : S) : Option (List AV) → Prop
  | some avs => RetVC E r s.bx avs
  | none => False
def retCQ (E : Env) (rs : List RS) (r : AV) : Exit → S → Prop
  | .normal, s => retC E rs r s (outL E s rs)
  | .ret, s => retC E rs r s (outL E s rs)
  | _, _ => False

theorem outL_tmp (E : Env) (s : S) : ∀ ts : List Nat, outL E s (ts.map .tmp) = some (ts.map (look · s.fr))
  | [] => rfl
  | t :: ts => by rw [List.map_cons, outL, outL_tmp E s ts]; rfl

/-- A CONTRACT, from the conditions on the body; results may lie in cells -/
theorem ok_of_vcC {P : Program} {E : Env} {f : Nat} {fn : Func} {c : Code} {rs : List RS} {L : Sus} {args : List AV} {r : AV} (hE : EnvOK P E) (hm : P.follows .mixedOrders = true)
    (hf : P.funcs[f]? = some fn) (hb : fn.body = some c) (hn : (fn.name == "runtime.NumGoroutine") = false) (hres : fn.results.toList = rs.map RS.rv) (hc : codeB fn.ntmps L c = true) (ha : Nat.ble args.length fn.ntmps = true)
    (h : (∀ av ∈ args, LenA av) → vc P E L [] c (retCQ E rs r) (argsS args)) : Ok P E f args r := by
  have ha := Nat.le_of_ble_eq_true ha
  refine ⟨⟨fn, hf, hn, by rw [hb]; rfl⟩, fun w M vals hM hvs hv => ?_⟩
  have hlen : ∀ av ∈ args, LenA av := fun av hav => by
    obtain ⟨j, hj⟩ := List.getElem?_of_mem hav
    exact (hv j av hj).len
  let X : Ctx := ⟨P, E, w, M, fun _ => False, fn.ntmps, [], fun _ => undef, [], []⟩
  refine calls_of (r := none) (n := 0) (callsIn_of_wp_marks hf hb trivial ?_)
  have hI : Inv X (argsS args) ⟨vals ++ Array.replicate (fn.ntmps - vals.size) undef, []⟩ w (fun _ => undef) := by
    refine ⟨⟨rfl, List.nodup_nil, fun D hD => by cases hD⟩, ?_, ⟨rfl, rfl, rfl, Nat.le_refl _, fun _ _ _ => rfl⟩, fun k hk => ⟨hM k hk, fun h => h⟩, fun id => trivial, fun i j k hl => (by cases hl), fun i => ?_, fun id => trivial⟩
    · show (vals ++ Array.replicate (fn.ntmps - vals.size) undef).size = fn.ntmps
      rw [Array.size_append, Array.size_replicate]; omega
    · show RV w _ _ _ ((vals ++ Array.replicate (fn.ntmps - vals.size) undef).getD i undef) (look i (frOf 0 args))
      rw [look_frOf, if_pos (Nat.zero_le _), Nat.sub_zero]
      cases hi : args[i]? with
      | none => exact .top _
      | some av =>
        have hlt : i < vals.size := by rw [hvs]; exact (List.getElem?_eq_some_iff.1 hi).1
        have e1 : (vals ++ Array.replicate (fn.ntmps - vals.size) undef).getD i undef = vals.getD i undef := by
          simp only [Array.getD_eq_getD_getElem?, Array.getElem?_append_left hlt]
        rw [e1]
        refine (hv i av hi).keep (Nat.le_refl _) (fun k hk hn => ⟨rfl, ?_⟩) fun id => trivial
        rintro (h | ⟨id, hl, _⟩)
        · exact hn h
        · cases hl
  refine vc_sound hE hm L c none 0 _ _ (X := X) rfl rfl (.inl rfl) hc (h hlen) hI fun e X' s a w' β hL hq hI => ?_
  have hmain : retC E rs r s (outL E s rs) → LeavesInM (fenceR none) 0 P fn a.tmps (fun e w' => ∃ v, e = .returned v ∧ Below w.heap.size w w' ∧ ResW E w' w.heap.size M v r) a.defers .returning w' := by
    intro hr
    obtain ⟨X2, hL2, hI2, hnd, hds⟩ := hI.shut hL rfl rfl
    rw [hI.df.1, show X'.dt = [] from hL.dt, List.append_nil]
    refine leave_shut X'.ds w' hnd hds ?_
    cases ho : outL E s rs with
    | none => rw [ho] at hr; exact hr.elim
    | some avs =>
      rw [ho] at hr
      have ho' : outL X2.E s rs = some avs := by rw [hL2.E]; exact ho
      obtain ⟨vs, g1, g2, g3⟩ := run_outs (a := ⟨a.tmps, []⟩) hres hI2 (by rw [hL2.P, hL2.E]; exact hE) ho'
      have hk := hL2.world hI2.keep
      rw [hL2.P] at g2
      refine ⟨_, g2, _, rfl, ⟨hk.os, hk.tape, hk.output, hk.size, fun k hk' => hk.block k hk' fun h => h⟩, ?_⟩
      have hI3 := hI2.grow g1 g3
      have hB : ∀ k, (X2.grow avs.length).own k → w.heap.size ≤ k := fun k hk => by
        rcases hL2.own k hk with h | h
        · exact h
        · exact h.elim
      have := ret_sound (B := w.heap.size) (M := M) (ts := List.range' X2.n avs.length) (r := r) (by show EnvOK X2.P X2.E; rw [hL2.P, hL2.E]; exact hE) hB (fun k hk => hL2.m0 k hk) hI3 (by
        show RetVC X2.E r s.bx _
        rw [range_look, hL2.E]; exact hr)
      rw [← g1] at this
      have e : resV (List.range' X2.n vs.length) (a.tmps ++ vs.toArray) = resVs vs := range_vals a.tmps X2.n hI2.sz vs
      have hE2 : X2.E = E := hL2.E
      rw [← e, ← hE2]
      exact this
  cases e with
  | normal => exact hmain hq
  | ret => exact hmain hq
  | exit i => exact hq.elim
  | goto l => exact hq.elim
  | panic ch => exact hq.elim
  | outgrown => exact hq.elim

theorem ok_of_vc {P : Program} {E : Env} {f : Nat} {fn : Func} {c : Code} {ts : List Nat} {L : Sus} {args : List AV} {r : AV} (hE : EnvOK P E) (hm : P.follows .mixedOrders = true)
    (hf : P.funcs[f]? = some fn) (hb : fn.body = some c) (hn : (fn.name == "runtime.NumGoroutine") = false) (hres : fn.results.toList = ts.map .tmp) (hc : codeB fn.ntmps L c = true) (ha : Nat.ble args.length fn.ntmps = true)
    (h : (∀ av ∈ args, LenA av) → vc P E L [] c (retQ E ts r) (argsS args)) : Ok P E f args r := by
  refine ok_of_vcC (rs := ts.map .tmp) hE hm hf hb hn (by rw [hres, List.map_map]; rfl) hc ha fun hl => ?_
  have e : retCQ E (ts.map .tmp) r = retQ E ts r := by
    funext e s
    cases e <;> simp only [retCQ, retQ, outL_tmp, retC]
  rw [e]; exact h hl

end Go.Vx
end

section
set_option linter.unusedVariables false
set_option linter.unusedSimpArgs false
namespace Go.Vx
open Go Go.RowKit

theorem look_zipR : ∀ (ts : List Nat) (rs : List AV), ts.Nodup → ∀ (j : Nat) t r, ts[j]? = some t → rs[j]? = some r → look t (zipR ts rs) = r
  | [], _, _, j, t, r, h, _ => by simp at h
  | t0 :: ts, [], _, j, t, r, _, h => by simp at h
  | t0 :: ts, r0 :: rs, hn, j, t, r, h1, h2 => by
    rw [List.nodup_cons] at hn
    rw [zipR, look_cons]
    cases j with
    | zero =>
      simp only [List.getElem?_cons_zero, Option.some.injEq] at h1 h2
      subst h1; subst h2
      rw [if_pos rfl]
    | succ j =>
      simp only [List.getElem?_cons_succ] at h1 h2
      have hne : t ≠ t0 := by
        rintro rfl
        exact hn.1 (List.mem_of_getElem? h1)
      rw [if_neg hne]
      exact look_zipR ts rs hn.2 j t r h1 h2

/-- A CONTRACT with boxes, from the conditions on the body -/
theorem okM_of_vc {P : Program} {E : Env} {f : Nat} {fn : Func} {c : Code} {ts : List Nat} {L : Sus} {args : List AV} {bx0 bx1 : List (Nat × Box)} {r : AV} (hE : EnvOK P E) (hm : P.follows .mixedOrders = true)
    (hf : P.funcs[f]? = some fn) (hb : fn.body = some c) (hn : (fn.name == "runtime.NumGoroutine") = false) (hres : fn.results.toList = ts.map .tmp) (hts : ts.Nodup) (hc : codeB fn.ntmps L c = true) (ha : Nat.ble args.length fn.ntmps = true)
    (h : (∀ av ∈ args, LenA av) → (∀ id e v xs, lookB id bx0 = .arr e v xs → xs.length ≤ maxLen) → vc P E L bx0 c (retM E bx0 ts r bx1) ⟨frOf 0 args, bx0⟩) : OkM P E f args bx0 r bx1 := by
  have ha := Nat.le_of_ble_eq_true ha
  refine ⟨⟨fn, hf, hn, by rw [hb]; rfl⟩, fun w M β0 vals hM hface hvs hv => ?_⟩
  have hlen : ∀ av ∈ args, LenA av := fun av hav => by
    obtain ⟨j, hj⟩ := List.getElem?_of_mem hav
    exact (hv j av hj).len
  have hlenB : ∀ id e v xs, lookB id bx0 = .arr e v xs → xs.length ≤ maxLen := fun id e v xs hl => by
    have := hface.box id
    rw [hl] at this
    obtain ⟨te, flat, _, _, _, ho, _⟩ := this
    rcases ho.2 with ⟨_, h0⟩ | ⟨g, cap, cur, _, _, _, h1, h2, _⟩
    · rw [h0]; exact Nat.zero_le _
    · exact Nat.le_trans h1 h2
  let X : Ctx := ⟨P, E, w, M, extOf bx0 β0, fn.ntmps, bx0, β0, [], []⟩
  refine calls_of (r := none) (n := 0) (callsIn_of_wp_marks hf hb trivial ?_)
  have hI : Inv X ⟨frOf 0 args, bx0⟩ ⟨vals ++ Array.replicate (fn.ntmps - vals.size) undef, []⟩ w β0 := by
    refine ⟨⟨rfl, List.nodup_nil, fun D hD => by cases hD⟩, ?_, ⟨rfl, rfl, rfl, Nat.le_refl _, fun _ _ _ => rfl⟩, hM, fun id => (hface.box id).ctx rfl fun k hl hb => ((hface.box id).lt hl hb).2, hface.inj, fun i => ?_, fun id => Turned.refl _ _⟩
    · show (vals ++ Array.replicate (fn.ntmps - vals.size) undef).size = fn.ntmps
      rw [Array.size_append, Array.size_replicate]; omega
    · show RV w _ _ _ ((vals ++ Array.replicate (fn.ntmps - vals.size) undef).getD i undef) (look i (frOf 0 args))
      rw [look_frOf, if_pos (Nat.zero_le _), Nat.sub_zero]
      cases hi : args[i]? with
      | none => exact .top _
      | some av =>
        have hlt : i < vals.size := by rw [hvs]; exact (List.getElem?_eq_some_iff.1 hi).1
        have e1 : (vals ++ Array.replicate (fn.ntmps - vals.size) undef).getD i undef = vals.getD i undef := by
          simp only [Array.getD_eq_getD_getElem?, Array.getElem?_append_left hlt]
        rw [e1]
        exact hv i av hi
  have hfin : ∀ {X' : Ctx} {s : S} {a : Act} {w' : World} {β' : Nat → Value}, Later X X' → Inv X' s a w' β' → Keep (X0 P E w M β0 bx0) w' ∧ Face (X0 P E w M β0 bx0) w' β' s.bx ∧ (∀ id, Turned (lookB id bx0) (β0 id) (lookB id s.bx) (β' id)) ∧
      ∀ i, RV w' (MM (X0 P E w M β0 bx0) (lookB · s.bx) β') β' (lookB · s.bx) (a.tmps.getD i undef) (look i s.fr) := fun {X' s a w' β'} hL hI => by
    have hk := hL.world hI.keep
    have hMM : Kept w' (MM X' (lookB · s.bx) β') w' (MM (X0 P E w M β0 bx0) (lookB · s.bx) β') := fun k _ hn => ⟨rfl, fun hm => hn (by
      rcases hm with hm | hm
      · exact .inl (hL.m0 k hm)
      · exact .inr hm)⟩
    refine ⟨⟨hk.os, hk.tape, hk.output, hk.size, hk.block⟩, ⟨fun id => ?_, hI.inj⟩, fun id => ?_, fun i => (hI.fr i).keep (Nat.le_refl _) hMM fun _ => Turned.refl _ _⟩
    · have h1 := (hI.box id).ctx (Y := X0 P E w M β0 bx0) (by rw [hL.E]; rfl) fun k hl hb => hL.own k ((hI.box id).lt hl hb).2
      exact h1.keep rfl (fun _ _ _ => rfl) (Nat.le_refl _) hMM fun _ => Turned.refl _ _
    · have := hI.pin id
      rw [hL.pb, hL.pv] at this
      exact this
  have hret : ∀ (X' : Ctx) (s : S) (a : Act) (w' : World) (β : Nat → Value), Later X X' → RetM E bx0 bx1 s (retFr ts r) → Inv X' s a w' β → ∃ v β', (results fn a.tmps).run P w' = .ok v w' ∧ Keep (X0 P E w M β0 bx0) w' ∧ Face (X0 P E w M β0 bx0) w' β' bx1 ∧ (∀ id, Turned (lookB id bx0) (β0 id) (lookB id bx1) (β' id)) ∧
      RV w' (MM (X0 P E w M β0 bx0) (lookB · bx1) β') β' (lookB · bx1) v r := by
    intro X' s a w' β hL hr hI
    have hgo : ∀ fr, Enter E bx0 s ⟨fr, bx1⟩ → ∃ β', Inv X' ⟨fr, bx1⟩ a w' β' := fun fr he => Enter.inv (X := X') (by rw [hL.P, hL.E]; exact hE) (by rw [hL.E, hL.pb]; exact he) hI
    unfold retFr at hr
    split at hr
    · rename_i t
      obtain ⟨β', hI'⟩ := hgo _ hr
      obtain ⟨g1, g2, g3, g4⟩ := hfin hL hI'
      refine ⟨_, β', run_results hres _ _, g1, g2, g3, ?_⟩
      have := g4 t
      simp only [look_cons, if_true] at this
      exact this
    · rename_i rs hne
      cases hlb : (ts.length == rs.length) with
      | false => rw [hlb] at hr; exact hr.elim
      | true =>
        rw [hlb] at hr
        have hl : ts.length = rs.length := by simpa using hlb
        obtain ⟨β', hI'⟩ := hgo _ hr
        obtain ⟨g1, g2, g3, g4⟩ := hfin hL hI'
        refine ⟨_, β', run_results hres _ _, g1, g2, g3, ?_⟩
        have hrv : resV ts a.tmps = .tuple (ts.map fun t => a.tmps.getD t undef).toArray := by
          unfold resV
          split
          · exact (hne _ rfl).elim
          · rfl
        rw [hrv]
        refine .tp _ rs (by simp [hl]) fun j av hj => ?_
        have hjl : j < ts.length := by rw [hl]; exact (List.getElem?_eq_some_iff.1 hj).1
        have e1 : (ts.map fun t => a.tmps.getD t undef).toArray.getD j undef = a.tmps.getD ts[j] undef := by
          simp [Array.getD_eq_getD_getElem?, hjl]
        rw [e1]
        have := g4 ts[j]
        simp only [look_zipR ts rs hts j _ av (List.getElem?_eq_getElem hjl) hj] at this
        exact this
    · exact hr.elim
  refine vc_sound hE hm L c none 0 _ _ (X := X) rfl rfl (.inl rfl) hc (h hlen hlenB) hI fun e X' s a w' β hL hq hI => ?_
  have hmain : RetM E bx0 bx1 s (retFr ts r) → LeavesInM (fenceR none) 0 P fn a.tmps (fun e w' => ∃ v β', e = .returned v ∧ Keep (X0 P E w M β0 bx0) w' ∧ Face (X0 P E w M β0 bx0) w' β' bx1 ∧ (∀ id, Turned (lookB id bx0) (β0 id) (lookB id bx1) (β' id)) ∧
      RV w' (MM (X0 P E w M β0 bx0) (lookB · bx1) β') β' (lookB · bx1) v r) a.defers .returning w' := fun hr => by
    obtain ⟨X2, hL2, hI2, hnd, hds⟩ := hI.shut hL rfl rfl
    rw [hI.df.1, show X'.dt = [] from hL.dt, List.append_nil]
    refine leave_shut X'.ds w' hnd hds ?_
    obtain ⟨v, β', h1, h2⟩ := hret X2 s _ _ β hL2 hr hI2
    exact ⟨v, h1, v, β', rfl, h2⟩
  cases e with
  | normal => exact hmain hq
  | ret => exact hmain hq
  | exit i => exact hq.elim
  | goto l => exact hq.elim
  | panic ch => exact hq.elim
  | outgrown => exact hq.elim

/-- A CONTRACT of a function that is handed boxes for good -/
theorem okH_of_vc {P : Program} {E : Env} {f : Nat} {fn : Func} {c : Code} {ts : List Nat} {L : Sus} {args : List AV} {bx0 bx1 : List (Nat × Box)} {r : AV} (hE : EnvOK P E) (hm : P.follows .mixedOrders = true)
    (hf : P.funcs[f]? = some fn) (hb : fn.body = some c) (hn : (fn.name == "runtime.NumGoroutine") = false) (hres : fn.results.toList = ts.map .tmp) (hts : ts.Nodup) (hc : codeB fn.ntmps L c = true) (ha : Nat.ble args.length fn.ntmps = true)
    (h : (∀ av ∈ args, LenA av) → (∀ id e v xs, lookB id bx0 = .arr e v xs → xs.length ≤ maxLen) → vc P E L [] c (retM E [] ts r bx1) ⟨frOf 0 args, bx0⟩) : OkH P E f args bx0 r bx1 := by
  have ha := Nat.le_of_ble_eq_true ha
  refine ⟨⟨fn, hf, hn, by rw [hb]; rfl⟩, fun w M β0 vals hM hface hvs hv => ?_⟩
  have hlen : ∀ av ∈ args, LenA av := fun av hav => by
    obtain ⟨j, hj⟩ := List.getElem?_of_mem hav
    exact (hv j av hj).len
  have hlenB : ∀ id e v xs, lookB id bx0 = .arr e v xs → xs.length ≤ maxLen := fun id e v xs hl => by
    have := hface.box id
    rw [hl] at this
    obtain ⟨te, flat, _, _, _, ho, _⟩ := this
    rcases ho.2 with ⟨_, h0⟩ | ⟨g, cap, cur, _, _, _, h1, h2, _⟩
    · rw [h0]; exact Nat.zero_le _
    · exact Nat.le_trans h1 h2
  let X : Ctx := ⟨P, E, w, M, extOf bx0 β0, fn.ntmps, [], fun _ => undef, [], []⟩
  refine calls_of (r := none) (n := 0) (callsIn_of_wp_marks hf hb trivial ?_)
  have hI : Inv X ⟨frOf 0 args, bx0⟩ ⟨vals ++ Array.replicate (fn.ntmps - vals.size) undef, []⟩ w β0 := by
    refine ⟨⟨rfl, List.nodup_nil, fun D hD => by cases hD⟩, ?_, ⟨rfl, rfl, rfl, Nat.le_refl _, fun _ _ _ => rfl⟩, hM, fun id => (hface.box id).ctx rfl fun k hl hb => ((hface.box id).lt hl hb).2, hface.inj, fun i => ?_, fun id => trivial⟩
    · show (vals ++ Array.replicate (fn.ntmps - vals.size) undef).size = fn.ntmps
      rw [Array.size_append, Array.size_replicate]; omega
    · show RV w _ _ _ ((vals ++ Array.replicate (fn.ntmps - vals.size) undef).getD i undef) (look i (frOf 0 args))
      rw [look_frOf, if_pos (Nat.zero_le _), Nat.sub_zero]
      cases hi : args[i]? with
      | none => exact .top _
      | some av =>
        have hlt : i < vals.size := by rw [hvs]; exact (List.getElem?_eq_some_iff.1 hi).1
        have e1 : (vals ++ Array.replicate (fn.ntmps - vals.size) undef).getD i undef = vals.getD i undef := by
          simp only [Array.getD_eq_getD_getElem?, Array.getElem?_append_left hlt]
        rw [e1]
        exact hv i av hi
  have hfin : ∀ {X' : Ctx} {s : S} {a : Act} {w' : World} {β' : Nat → Value}, Later X X' → Inv X' s a w' β' → Keep (X0 P E w M β0 bx0) w' ∧ Face (X0 P E w M β0 bx0) w' β' s.bx ∧
      ∀ i, RV w' (MM (X0 P E w M β0 bx0) (lookB · s.bx) β') β' (lookB · s.bx) (a.tmps.getD i undef) (look i s.fr) := fun {X' s a w' β'} hL hI => by
    have hk := hL.world hI.keep
    have hMM : Kept w' (MM X' (lookB · s.bx) β') w' (MM (X0 P E w M β0 bx0) (lookB · s.bx) β') := fun k _ hn => ⟨rfl, fun hm => hn (by
      rcases hm with hm | hm
      · exact .inl (hL.m0 k hm)
      · exact .inr hm)⟩
    refine ⟨⟨hk.os, hk.tape, hk.output, hk.size, hk.block⟩, ⟨fun id => ?_, hI.inj⟩, fun i => (hI.fr i).keep (Nat.le_refl _) hMM fun _ => Turned.refl _ _⟩
    · have h1 := (hI.box id).ctx (Y := X0 P E w M β0 bx0) (by rw [hL.E]; rfl) fun k hl hb => hL.own k ((hI.box id).lt hl hb).2
      exact h1.keep rfl (fun _ _ _ => rfl) (Nat.le_refl _) hMM fun _ => Turned.refl _ _
  have hret : ∀ (X' : Ctx) (s : S) (a : Act) (w' : World) (β : Nat → Value), Later X X' → RetM E [] bx1 s (retFr ts r) → Inv X' s a w' β → ∃ v β', (results fn a.tmps).run P w' = .ok v w' ∧ Keep (X0 P E w M β0 bx0) w' ∧ Face (X0 P E w M β0 bx0) w' β' bx1 ∧
      RV w' (MM (X0 P E w M β0 bx0) (lookB · bx1) β') β' (lookB · bx1) v r := by
    intro X' s a w' β hL hr hI
    have hgo : ∀ fr, Enter E [] s ⟨fr, bx1⟩ → ∃ β', Inv X' ⟨fr, bx1⟩ a w' β' := fun fr he => Enter.inv (X := X') (by rw [hL.P, hL.E]; exact hE) (by rw [hL.E, hL.pb]; exact he) hI
    unfold retFr at hr
    split at hr
    · rename_i t
      obtain ⟨β', hI'⟩ := hgo _ hr
      obtain ⟨g1, g2, g4⟩ := hfin hL hI'
      refine ⟨_, β', run_results hres _ _, g1, g2, ?_⟩
      have := g4 t
      simp only [look_cons, if_true] at this
      exact this
    · rename_i rs hne
      cases hlb : (ts.length == rs.length) with
      | false => rw [hlb] at hr; exact hr.elim
      | true =>
        rw [hlb] at hr
        have hl : ts.length = rs.length := by simpa using hlb
        obtain ⟨β', hI'⟩ := hgo _ hr
        obtain ⟨g1, g2, g4⟩ := hfin hL hI'
        refine ⟨_, β', run_results hres _ _, g1, g2, ?_⟩
        have hrv : resV ts a.tmps = .tuple (ts.map fun t => a.tmps.getD t undef).toArray := by
          unfold resV
          split
          · exact (hne _ rfl).elim
          · rfl
        rw [hrv]
        refine .tp _ rs (by simp [hl]) fun j av hj => ?_
        have hjl : j < ts.length := by rw [hl]; exact (List.getElem?_eq_some_iff.1 hj).1
        have e1 : (ts.map fun t => a.tmps.getD t undef).toArray.getD j undef = a.tmps.getD ts[j] undef := by
          simp [Array.getD_eq_getD_getElem?, hjl]
        rw [e1]
        have := g4 ts[j]
        simp only [look_zipR ts rs hts j _ av (List.getElem?_eq_getElem hjl) hj] at this
        exact this
    · exact hr.elim
  refine vc_sound hE hm L c none 0 _ _ (X := X) rfl rfl (.inl rfl) hc (h hlen hlenB) hI fun e X' s a w' β hL hq hI => ?_
  have hmain : RetM E [] bx1 s (retFr ts r) → LeavesInM (fenceR none) 0 P fn a.tmps (fun e w' => ∃ v β', e = .returned v ∧ Keep (X0 P E w M β0 bx0) w' ∧ Face (X0 P E w M β0 bx0) w' β' bx1 ∧
      RV w' (MM (X0 P E w M β0 bx0) (lookB · bx1) β') β' (lookB · bx1) v r) a.defers .returning w' := fun hr => by
    obtain ⟨X2, hL2, hI2, hnd, hds⟩ := hI.shut hL rfl rfl
    rw [hI.df.1, show X'.dt = [] from hL.dt, List.append_nil]
    refine leave_shut X'.ds w' hnd hds ?_
    obtain ⟨v, β', h1, h2⟩ := hret X2 s _ _ β hL2 hr hI2
    exact ⟨v, h1, v, β', rfl, h2⟩
  cases e with
  | normal => exact hmain hq
  | ret => exact hmain hq
  | exit i => exact hq.elim
  | goto l => exact hq.elim
  | panic ch => exact hq.elim
  | outgrown => exact hq.elim

/-- the body ends in this panic -/
def panQ (ch : List PanicEntry) : Exit → S → Prop
  | .panic ch', _ => ch' = ch
  | _, _ => False
theorem leave_shutP {P : Program} {F : Fence} {n : Nat} {fn : Func} {tmps : Array Value} {R : Ending → World → Prop} {u : FrameMode} (hu : u ≠ .run) : ∀ (ds : List Nat) (w : World), ds.Nodup → (∀ D ∈ ds, w.heap[D]? = some (.deferred (some []))) →
    LeavesInM F n P fn tmps R [] u (shut ds w) → LeavesInM F n P fn tmps R (ds.map mark) u w
  | [], w, _, _, h => h
  | D :: ds, w, hn, hd, h => by
    rw [List.nodup_cons] at hn
    refine ⟨hu, .inl ⟨D, w.putObj D (.deferred none), rfl, run_takeDeferred (hd D (List.mem_cons_self ..)), ?_⟩⟩
    refine leave_shutP hu ds _ hn.2 (fun D' hD' => ?_) h
    rw [World.putObj_heap_other fun e => hn.1 (by rw [← e]; exact hD')]
    exact hd D' (List.mem_cons_of_mem _ hD')

/-- A CONTRACT: the call ends in a panic -/
theorem okP_of_vc {P : Program} {E : Env} {f : Nat} {fn : Func} {c : Code} {L : Sus} {args : List AV} {bx0 : List (Nat × Box)} {ch : List PanicEntry} (hE : EnvOK P E) (hm : P.follows .mixedOrders = true)
    (hf : P.funcs[f]? = some fn) (hb : fn.body = some c) (hn : (fn.name == "runtime.NumGoroutine") = false) (hc : codeB fn.ntmps L c = true) (ha : Nat.ble args.length fn.ntmps = true)
    (h : (∀ av ∈ args, LenA av) → (∀ id e v xs, lookB id bx0 = .arr e v xs → xs.length ≤ maxLen) → vc P E L [] c (panQ ch) ⟨frOf 0 args, bx0⟩) : OkP P E f args bx0 ch := by
  have ha := Nat.le_of_ble_eq_true ha
  refine ⟨⟨fn, hf, hn, by rw [hb]; rfl⟩, fun w M β0 vals hM hface hvs hv => ?_⟩
  have hlen : ∀ av ∈ args, LenA av := fun av hav => by
    obtain ⟨j, hj⟩ := List.getElem?_of_mem hav
    exact (hv j av hj).len
  have hlenB : ∀ id e v xs, lookB id bx0 = .arr e v xs → xs.length ≤ maxLen := fun id e v xs hl => by
    have := hface.box id
    rw [hl] at this
    obtain ⟨te, flat, _, _, _, ho, _⟩ := this
    rcases ho.2 with ⟨_, h0⟩ | ⟨g, cap, cur, _, _, _, h1, h2, _⟩
    · rw [h0]; exact Nat.zero_le _
    · exact Nat.le_trans h1 h2
  let X : Ctx := ⟨P, E, w, M, extOf bx0 β0, fn.ntmps, [], fun _ => undef, [], []⟩
  refine calls_of (r := none) (n := 0) (callsIn_of_wp_marks hf hb trivial ?_)
  have hI : Inv X ⟨frOf 0 args, bx0⟩ ⟨vals ++ Array.replicate (fn.ntmps - vals.size) undef, []⟩ w β0 := by
    refine ⟨⟨rfl, List.nodup_nil, fun D hD => by cases hD⟩, ?_, ⟨rfl, rfl, rfl, Nat.le_refl _, fun _ _ _ => rfl⟩, hM, fun id => (hface.box id).ctx rfl fun k hl hb => ((hface.box id).lt hl hb).2, hface.inj, fun i => ?_, fun id => trivial⟩
    · show (vals ++ Array.replicate (fn.ntmps - vals.size) undef).size = fn.ntmps
      rw [Array.size_append, Array.size_replicate]; omega
    · show RV w _ _ _ ((vals ++ Array.replicate (fn.ntmps - vals.size) undef).getD i undef) (look i (frOf 0 args))
      rw [look_frOf, if_pos (Nat.zero_le _), Nat.sub_zero]
      cases hi : args[i]? with
      | none => exact .top _
      | some av =>
        have hlt : i < vals.size := by rw [hvs]; exact (List.getElem?_eq_some_iff.1 hi).1
        have e1 : (vals ++ Array.replicate (fn.ntmps - vals.size) undef).getD i undef = vals.getD i undef := by
          simp only [Array.getD_eq_getD_getElem?, Array.getElem?_append_left hlt]
        rw [e1]
        exact hv i av hi
  refine vc_sound hE hm L c none 0 _ _ (X := X) rfl rfl (.inl rfl) hc (h hlen hlenB) hI fun e X' s a w' β hL hq hI => ?_
  cases e with
  | panic ch' =>
    have hq : ch' = ch := hq
    subst hq
    obtain ⟨X2, hL2, hI2, hnd, hds⟩ := hI.shut hL rfl rfl
    show LeavesInM (fenceR none) 0 P fn a.tmps _ a.defers (.panicking ch') w'
    rw [hI.df.1, show X'.dt = [] from hL.dt, List.append_nil]
    refine leave_shutP (by simp) X'.ds w' hnd hds ?_
    have hk := hL2.world hI2.keep
    exact ⟨rfl, ⟨hk.os, hk.tape, hk.output, hk.size, hk.block⟩⟩
  | normal => exact hq.elim
  | ret => exact hq.elim
  | exit i => exact hq.elim
  | goto l => exact hq.elim
  | outgrown => exact hq.elim

end Go.Vx
end

section
set_option linter.unusedVariables false
set_option linter.unusedSimpArgs false
namespace Go.Vx
open Go Go.RowKit

/-! ### definitions: g counts what has come; none: a round was left -/
def flatA : AV → Bool
  | .c d => scD d
  | .ag ds => ds.all scD
  | _ => false
def flatL : List AV → Bool
  | [] => true
  | v :: r => cond (flatA v) (flatL r) false
def YieldVC (l0 l : Nat) (fst caps : Array Value) (es : List (List AV)) (args : List AV) (W : Option Nat → AV → Upd → S → Prop) (g : Option Nat) (s : S) : Prop :=
  ∃ k, (l = l0 ∧ fst = #[] ∧ caps = #[] ∧ flatL args = true) ∧ g = some k ∧ es[k]? = some args ∧ W (some (k + 1)) (.c (.sc (.bool true))) [] s ∧ W none (.c (.sc (.bool false))) [] s
theorem YieldVC.mk {l : Nat} {es : List (List AV)} {args : List AV} {W : Option Nat → AV → Upd → S → Prop} {s : S} {k : Nat} (h : flatL args = true) (h1 : es[k]? = some args) (h2 : W (some (k + 1)) (.c (.sc (.bool true))) [] s) (h3 : W none (.c (.sc (.bool false))) [] s) :
    YieldVC l l #[] #[] es args W (some k) s := ⟨k, ⟨rfl, rfl, rfl, h⟩, rfl, h1, h2, h3⟩
def stepY (P : Program) (E : Env) (l0 : Nat) (es : List (List AV)) (d : Nat) (b : Box) (W : Option Nat → AV → Upd → S → Prop) : R → Option Nat → S → Prop
  | .yld l fst caps args, g, s => YieldVC l0 l fst caps es args W g s
  | .val v u, g, s => stepR P E (some []) d b (W g) (.val v u) s
  | .ob p r, g, s => stepR P E (some []) d b (W g) (.ob p r) s
  | .br t x y, g, s => stepR P E (some []) d b (W g) (.br t x y) s
  | .call f args u raw, g, s => stepR P E (some []) d b (W g) (.call f args u raw) s
  | .callM f raw, g, s => stepR P E (some []) d b (W g) (.callM f raw) s
  | .bad, _, _ => False
def nextY (d : Option Nat) (W : Option Nat → S → Prop) (g : Option Nat) (v : AV) (u : Upd) (s : S) : Prop := W g (putU s d v u)
def vcOpsY (P : Program) (E : Env) (l0 : Nat) (es : List (List AV)) (all : List Oper) (K : Option Nat → S → Prop) : List Oper → Option Nat → S → Prop
  | [], g, s => K g s
  | o :: r, g, s => stepY P E l0 es (dstN o.dst) (lookB (dstN o.dst) s.bx) (nextY o.dst (vcOpsY P E l0 es all K r)) (opG E all s o) g s
def thenY (K : Option Nat → S → Prop) (Q : Exit → Option Nat → S → Prop) : Exit → Option Nat → S → Prop
  | .normal, g, s => K g s
  | e, g, s => Q e g s
def blockY (id : Nat) (Q : Exit → Option Nat → S → Prop) : Exit → Option Nat → S → Prop
  | .exit i, g, s => cond (i == id) (Q .normal g s) (Q (.exit i) g s)
  | e, g, s => Q e g s
def BackY (E : Env) {Y : Type} (inv : Y → Prop) (gh : Y → Option Nat) (st : Y → S) (μ : Y → Nat) (y : Y) (g : Option Nat) (s2 : S) : Prop := ∃ y', gh y' = g ∧ Enter E [] s2 (st y') ∧ inv y' ∧ μ y' < μ y
def LoopY (E : Env) (W : (Exit → Option Nat → S → Prop) → Option Nat → S → Prop) (Q : Exit → Option Nat → S → Prop) (g : Option Nat) (s : S) : Prop :=
  ∃ (Y : Type) (inv : Y → Prop) (gh : Y → Option Nat) (st : Y → S) (μ : Y → Nat), (∃ y, gh y = g ∧ Enter E [] s (st y) ∧ inv y) ∧ ∀ y, inv y → W (thenY (BackY E inv gh st μ y) Q) (gh y) (st y)
theorem LoopY.mk {E : Env} {Y : Type} {W : (Exit → Option Nat → S → Prop) → Option Nat → S → Prop} {Q : Exit → Option Nat → S → Prop} {g : Option Nat} {s : S} (inv : Y → Prop) (gh : Y → Option Nat) (st : Y → S) (μ : Y → Nat)
    (h0 : ∃ y, gh y = g ∧ Enter E [] s (st y) ∧ inv y) (h : ∀ y, inv y → W (thenY (BackY E inv gh st μ y) Q) (gh y) (st y)) : LoopY E W Q g s := ⟨Y, inv, gh, st, μ, h0, h⟩
section
variable {F : Fence} {n : Nat} {P : Program} {b : Frame} {a : Act} {k : List Item} {cs : List Frame} {w : World} {Q : Exit → Act → World → Prop}
theorem stepR_scope {c : Code} : step P (lone (b.atR a (.code (.scope c) :: k)) cs w) = .next (lone (b.atR a (.code c :: .inScope c :: k)) cs w) :=
  step_lone_go (by simp [stepG, stepG.exec, Frame.atR])
theorem stepR_inScope {c : Code} : step P (lone (b.atR a (.inScope c :: k)) cs w) = .next (lone (b.atR a k) cs w) :=
  step_lone_go (by simp [stepG, stepG.exec, Frame.atR])
theorem wpIn_scope {c : Code} (h : c.wpIn F n P (Exit.noGoto Q) a w) : (Code.scope c).wpIn F n P Q a w := by
  intro b k cs hro hb hr
  have h0 : (lone (b.atR a (.code (.scope c) :: k)) cs w).fenced P F := fenced_calm hb hr rfl
  obtain ⟨e, a₁, w₁, hq, harr⟩ := h b (.inScope c :: k) cs hro hb hr
  cases e with
  | normal => exact ⟨.normal, a₁, w₁, hq, .head h0 stepR_scope (StepsIn.trans harr (.one (fenced_calm hb hr rfl) stepR_inScope))⟩
  | exit id =>
    have hx : exitTo id (.inScope c :: k) = exitTo id k := by simp [exitTo]
    exact ⟨.exit id, a₁, w₁, hq, fun k' hk => .head h0 stepR_scope (harr.1 k' (by rw [hx]; exact hk)),
      fun hr' hk => let ⟨k₁, h1, h2⟩ := harr.2 hr' (by rw [hx]; exact hk); ⟨k₁, h1, .head h0 stepR_scope h2⟩⟩
  | goto l => exact hq.elim
  | ret => exact ⟨_, a₁, w₁, hq, .of_steps (.one h0 stepR_scope) harr⟩
  | panic ch => exact ⟨_, a₁, w₁, hq, .of_steps (.one h0 stepR_scope) harr⟩
  | outgrown => exact ⟨_, a₁, w₁, hq, .of_steps (.one h0 stepR_scope) harr⟩
end
/-- out of a body with labels, no jump being left -/
def scopeY (Q : Exit → Option Nat → S → Prop) : Exit → Option Nat → S → Prop
  | .goto _, _, _ => False
  | e, g, s => Q e g s
def vcY (P : Program) (E : Env) (L : Sus) (l0 : Nat) (es : List (List AV)) : Code → (Exit → Option Nat → S → Prop) → Option Nat → S → Prop
  | .skip, Q, g, s => Q .normal g s
  | .region id ops dr, Q, g, s => cond dr (vcD P E [] ops.toList (Q .normal g) s (susOf id L)) (vcOpsY P E l0 es ops.toList (Q .normal) ops.toList g s)
  | .seq a b, Q, g, s => vcY P E L l0 es a (thenY (vcY P E L l0 es b Q) Q) g s
  | .cond c a b, Q, g, s => condA (vcY P E L l0 es a Q g) (vcY P E L l0 es b Q g) s (ev s.fr c)
  | .block id c, Q, g, s => vcY P E L l0 es c (blockY id Q) g s
  | .loop c, Q, g, s => LoopY E (vcY P E L l0 es c) Q g s
  | .exit i, Q, g, s => Q (.exit i) g s
  | .ret, Q, g, s => Q .ret g s
  | .scope c, Q, g, s => vcY P E L l0 es c (scopeY Q) g s
  | .label _, Q, g, s => Q .normal g s
  | _, _, _, _ => False
/-- all has come, or a round was left -/
def doneY (es : List (List AV)) : Option Nat → Prop
  | some k => k = es.length
  | none => True
def seqQ (es : List (List AV)) : Exit → Option Nat → S → Prop
  | .normal, g, _ => doneY es g
  | .ret, g, _ => doneY es g
  | _, _, _ => False
def yieldV (l : Nat) : AV := .c (.sc (.func (.yield l) #[] #[]))

/-! ### soundness -/
theorem flatA_v {w : World} {M : Nat → Prop} {β : Nat → Value} {lk : Nat → Box} {v : Value} {av : AV} (h : RV w M β lk v av) (hf : flatA av = true) : FlatV v av := by
  intro w' M' β' lk'
  cases h with
  | c v d h =>
    cases h with
    | sc v h => exact .c _ _ (.sc _ h)
    | sl => cases hf
  | ag cs ds hs h =>
    refine .ag cs ds hs fun j d hd => ?_
    have hd' := List.all_eq_true.1 hf d (List.mem_of_getElem? hd)
    have h1 := h j d hd
    revert h1
    generalize cs.getD j undef = vv
    intro h1
    cases h1 with
    | sc v h => exact .sc _ h
    | sl => cases hd'
  | _ => cases hf
theorem flatL_at : ∀ {l : List AV}, flatL l = true → ∀ (j : Nat) av, l[j]? = some av → flatA av = true
  | [], _, j, av, h => by simp at h
  | v :: r, h, j, av, hj => by
    simp only [flatL] at h
    cases hv : flatA v <;> rw [hv] at h
    · cases h
    · cases j with
      | zero =>
        simp only [List.getElem?_cons_zero, Option.some.injEq] at hj
        subst hj; exact hv
      | succ j => exact flatL_at h j av (by simpa using hj)

/-- the same activation -/
structure SameY (X X' : Ctx) : Prop where
  P : X'.P = X.P
  E : X'.E = X.E
  n : X'.n = X.n
  pb : X'.pb = X.pb
  ds : X'.ds = X.ds
  dt : X'.dt = X.dt
theorem SameY.refl (X : Ctx) : SameY X X := ⟨rfl, rfl, rfl, rfl, rfl, rfl⟩
theorem SameY.trans {X Y Z : Ctx} (h : SameY X Y) (k : SameY Y Z) : SameY X Z := ⟨k.P.trans h.P, k.E.trans h.E, k.n.trans h.n, k.pb.trans h.pb, k.ds.trans h.ds, k.dt.trans h.dt⟩
/-- each block is the iterator's own, or it is read by value, or it is another's -/
structure Cov (w1 : World) (M : Nat → Prop) (X : Ctx) : Prop where
  all : ∀ b, b < X.w0.heap.size → X.ext b ∨ (b < w1.heap.size ∧ ¬ M b) ∨ X.M0 b
  lt : ∀ b, X.ext b → b < X.w0.heap.size
  ds : X.ds = []

section
variable {X : Ctx} {s : S} {a : Act} {w w1 : World} {β : Nat → Value} {M : Nat → Prop} {J : Option Nat → (Nat → Prop) → World → Prop} {l0 : Nat} {es : List (List AV)}

theorem noM_yld : ∀ {r : R} {l : Nat} {fst caps : Array Value} {args : List AV}, r = .yld l fst caps args → noM r → False
  | _, _, _, _, _, rfl, h => h

theorem yld_op {E : Env} {d : Nat} {o : Op} {l : Nat} {fst caps : Array Value} {args : List AV} (h : opR E s d o = .yld l fst caps args) : ∃ fo as ts, o = .call ⟨.value fo, as, ts⟩ ∧ ev s.fr fo = .c (.sc (.func (.yield l) fst caps)) ∧ args = as.toList.map (ev s.fr) := by
  by_cases hc : ∃ fo args ts, o = .call ⟨.value fo, args, ts⟩
  · obtain ⟨fo, as, ts, rfl⟩ := hc
    simp only [opR, callR] at h
    split at h
    · unfold callN at h
      split at h <;> cases h
    · cases h
    · rename_i l' fst' caps' hf
      injection h with h1 h2 h3 h4
      subst h1; subst h2; subst h3
      exact ⟨fo, as, ts, rfl, hf, h4.symm⟩
    · cases h
  · exact (noM_yld h (noM_op fun fo args ts e => hc ⟨fo, args, ts, e⟩)).elim

theorem yld_opG {E : Env} {all : List Oper} {o : Oper} {l : Nat} {fst caps : Array Value} {args : List AV} (h : opG E all s o = .yld l fst caps args) : o.guard = none ∧ opR E s (dstN o.dst) o.op = .yld l fst caps args := by
  cases hg : o.guard with
  | none =>
    unfold opG at h
    rw [hg] at h
    exact ⟨rfl, h⟩
  | some p =>
    obtain ⟨j, want⟩ := p
    unfold opG at h
    rw [hg] at h
    simp only [] at h
    unfold guardR at h
    split at h
    · cases want <;> cases h
    · cases h
    · cases h

theorem yield_op {n i : Nat} {ops : Array Oper} {o : Oper} {Q : Exit → Act → World → Prop} {K : Act → World → Prop} {k : Nat} {args : List AV} (hst : Stable J) (hy : YieldsTo X.P l0 es w1 M J) (hi : ops[i]? = some o) (hI : Inv X s a w β) (hJ : J (some k) X.ext X.w0) (hC : Cov w1 M X)
    (hd : ∀ d, o.dst = some d → d < X.n) (hg : opG X.E ops.toList s o = .yld l0 #[] #[] args) (he : es[k]? = some args) (hfl : flatL args = true)
    (hK : ∀ t X' w', SameY X X' → J (cond t (some (k + 1)) none) X'.ext X'.w0 → Cov w1 M X' → Inv X' (putU s o.dst (.c (.sc (.bool t))) []) (a.put o.dst (.bool t)) w' β → K (a.put o.dst (.bool t)) w') : wpOpIn (fenceR none) n X.P ops Q i K a w := by
  obtain ⟨hgd, hop⟩ := yld_opG hg
  obtain ⟨fo, as, ts, ho, hfo, hargs⟩ := yld_op hop
  unfold wpOpIn
  simp only [hi]
  rw [if_pos (by simp [Region.wanted, hgd])]
  have hfv := hI.ev fo
  rw [hfo] at hfv
  have hval : a.eval fo = .func (.yield l0) #[] #[] := by
    generalize a.eval fo = vf at hfv
    cases hfv.to_c; rfl
  -- the world as the iterator has left it
  let it : Nat → Prop := fun b => X.ext b ∨ (X.w0.heap.size ≤ b ∧ b < w.heap.size)
  have hJ' : J (some k) it w := hst (some k) X.ext it X.w0 w hJ hI.keep.os hI.keep.tape hI.keep.output hI.keep.size (fun b hb hn => hI.keep.block b hb hn) (fun b hb => .inl hb) fun b hb => hb
  have hvs : (as.map a.eval).size = args.length := by rw [hargs]; simp
  obtain ⟨fn, tmps, asg, body, hrun, hround⟩ := hy k args it w (as.map a.eval) he hJ' hvs (fun j av hj => by
    have hav := hj
    rw [hargs, List.getElem?_map] at hj
    cases hx : as.toList[j]? with
    | none => rw [hx] at hj; cases hj
    | some x =>
      rw [hx] at hj
      simp only [Option.map_some, Option.some.injEq] at hj
      subst hj
      have hjl : j < as.size := by simpa using (List.getElem?_eq_some_iff.1 hx).1
      have e1 : (as.map a.eval).getD j undef = a.eval x := by
        rw [Array.getElem?_toList] at hx
        simp [Array.getD_eq_getD_getElem?, hx]
      rw [e1]
      exact flatA_v (hI.ev x) (flatL_at hfl j _ hav)) (n - 1)
  have hexec : (o.semAt (fenceR none).round a.eval).run X.P w = .ok (.round l0 fn tmps asg body) w := by
    show (execOp a.eval o).run X.P w = _
    simp only [execOp, ho, resolve, hval, Deferred.ofValue, invoke, callFunc, Sem.run_bind, Sem.run_pure, Result.andThen_ok, Array.empty_append, Array.append_empty, hrun]
  refine ⟨fun _ _ => trivial, ?_⟩
  rw [hexec, Oper.uponIn_round]
  refine ⟨noDepth, hround.mono fun e w' hh => ?_⟩
  obtain ⟨hor, hsz, hkp⟩ := hh
  have hM0 : ∀ b, X.M0 b → b < X.w0.heap.size ∧ ¬ X.ext b := hI.m0
  let X' : Ctx := { X with w0 := w', M0 := fun b => X.M0 b ∨ (w.heap.size ≤ b ∧ b < w'.heap.size), ext := it }
  have hitlt : ∀ b, it b → b < w.heap.size := fun b hb => by
    rcases hb with hb | hb
    · exact Nat.lt_of_lt_of_le (hC.lt b hb) hI.keep.size
    · exact hb.2
  have hI' : Inv X' s a w' β := by
    refine hI.moved ⟨rfl, hsz, fun b hb hn => ⟨hkp b hb ?_, ?_⟩, fun id b hl hb => ?_⟩ ⟨?_, ?_⟩ rfl rfl (Keep.refl X') (fun b hb => ?_) hI.pin
    · by_cases hlt : b < X.w0.heap.size
      · rcases hC.all b hlt with h | h | h
        · exact .inl (.inl h)
        · exact .inr h
        · exact (hn (.inl h)).elim
      · exact .inl (.inr ⟨by omega, hb⟩)
    · rintro (hm | hm)
      · rcases hm with hm | hm
        · exact hn (.inl hm)
        · omega
      · exact hn (.inr hm)
    · obtain ⟨g1, g2⟩ := (hI.box id).lt hl hb
      have hitb : it b := by
        rcases g2 with g2 | g2
        · exact .inr ⟨g2, g1⟩
        · exact .inl g2
      exact ⟨.inr hitb, hkp b g1 (.inl hitb)⟩
    · exact hI.df.1
    · show DsOK X'
      refine ⟨hI.df.2.1, fun D hD => ?_⟩
      have hD : D ∈ X.ds := hD
      rw [hC.ds] at hD; cases hD
    · rcases hb with hb | hb
      · obtain ⟨g1, g2⟩ := hM0 b hb
        refine ⟨?_, fun hi => ?_⟩
        · show b < w'.heap.size
          have := hI.keep.size; omega
        · rcases hi with hi | hi
          · exact g2 hi
          · omega
      · exact ⟨hb.2, fun hi => by have := hitlt b hi; omega⟩
  have hC' : Cov w1 M X' := ⟨fun b hb => by
    have hb : b < w'.heap.size := hb
    by_cases h1 : b < w.heap.size
    · by_cases h2 : b < X.w0.heap.size
      · rcases hC.all b h2 with h | h | h
        · exact .inl (.inl h)
        · exact .inr (.inl h)
        · exact .inr (.inr (.inl h))
      · exact .inl (.inr ⟨by omega, h1⟩)
    · exact .inr (.inr (.inr ⟨by omega, hb⟩)), fun b hb => by
    have := hitlt b hb
    show b < w'.heap.size
    omega, hC.ds⟩
  have hput : ∀ t, Inv X' (putU s o.dst (.c (.sc (.bool t))) []) (a.put o.dst (.bool t)) w' β := fun t => by
    have := putU_inv (X := X') (o := o) (u := []) (v := .c (.sc (.bool t))) (v' := .bool t) (s := s) (a := a) (w' := w') (β' := β) hd hI' (.c _ _ (.sc _ rfl))
    exact this
  rcases hor with ⟨rfl, hj⟩ | ⟨rfl, hj⟩
  · exact hK true X' w' ⟨rfl, rfl, rfl, rfl, rfl, rfl⟩ hj hC' (hput true)
  · exact hK false X' w' ⟨rfl, rfl, rfl, rfl, rfl, rfl⟩ hj hC' (hput false)

theorem stepY_cases {P : Program} {E : Env} {d : Nat} {b : Box} {W : Option Nat → AV → Upd → S → Prop} : ∀ {r : R} {g : Option Nat}, stepY P E l0 es d b W r g s → stepR P E (some []) d b (W g) r s ∨ ∃ l fst caps args, r = .yld l fst caps args ∧ YieldVC l0 l fst caps es args W g s
  | .yld l fst caps args, g, h => .inr ⟨l, fst, caps, args, rfl, h⟩
  | .val _ _, g, h => .inl h
  | .ob _ _, g, h => .inl h
  | .br _ _ _, g, h => .inl h
  | .call _ _ _ _, g, h => .inl h
  | .callM _ _, g, h => .inl h
  | .bad, g, h => h.elim

theorem textY_sound {P : Program} {E : Env} {n : Nat} {ops : Array Oper} {K : Option Nat → S → Prop} {Q : Exit → Act → World → Prop} (hE : EnvOK P E) (hst : Stable J) (hy : YieldsTo P l0 es w1 M J) :
    ∀ (l : List Oper) (k : Nat) (X : Ctx) (g : Option Nat) (s : S) (a : Act) (w : World) (β : Nat → Value), X.P = P → X.E = E → X.pb = [] → (∀ (i : Nat) o d, ops.toList[i]? = some o → o.dst = some d → d < X.n) → (∀ j, l[j]? = ops.toList[k + j]?) →
      (∀ g' X' s a w β, SameY X X' → K g' s → J g' X'.ext X'.w0 → Cov w1 M X' → Inv X' s a w β → Q .normal a w) → vcOpsY P E l0 es ops.toList K l g s → J g X.ext X.w0 → Cov w1 M X → Inv X s a w β → wpOpsIn (fenceR none) n P ops Q (List.range' k l.length) a w
  | [], k, X, g, s, a, w, β, _, _, _, _, _, hQ, h, hJ, hC, hI => hQ g X s a w β (SameY.refl X) h hJ hC hI
  | o :: r, k, X, g, s, a, w, β, hP, hEE, hpb, hd, hl, hQ, h, hJ, hC, hI => by
    subst hP; subst hEE
    have ho : ops[k]? = some o := by
      have := hl 0
      rw [Nat.add_zero, Array.getElem?_toList (xs := ops)] at this
      rw [← this]; rfl
    have hdo : ∀ d, o.dst = some d → d < X.n := fun d hdd => hd k o d (by rw [Array.getElem?_toList]; exact ho) hdd
    have hrest : ∀ j, r[j]? = ops.toList[k + 1 + j]? := fun j => by
      have := hl (j + 1)
      rw [List.getElem?_cons_succ] at this
      rw [this]
      congr 1; omega
    rw [List.length_cons, List.range'_succ, wpOpsIn_cons]
    rcases stepY_cases h with h | ⟨l, fst, caps, args, hr, k', ⟨hl0, rfl, rfl, hfl⟩, rfl, he, ht, hf⟩
    · refine op_in (Q0 := fun _ _ _ => False) (.inl rfl) (fun _ _ _ h => h.elim) ?_
      rcases stepR_or h with ⟨v, u, hg, hw⟩ | ⟨f, raw, hm, hc⟩
      · exact wpOp_goes ho hI hE hdo hg fun a' w' β' hI' => textY_sound hE hst hy r (k + 1) X g _ a' w' β' rfl rfl hpb hd hrest hQ hw hJ hC hI'
      · exact wpOp_mut (W := vcOpsY X.P X.E l0 es ops.toList K r g) ho hI hdo hm (by rw [hpb]; exact hc) fun s' a' w' β' hs hI' => textY_sound hE hst hy r (k + 1) X g _ a' w' β' rfl rfl hpb hd hrest hQ hs hJ hC hI'
    · rw [hl0] at hr
      refine yield_op hst hy ho hI hJ hC hdo hr he hfl fun t X' w' hS hJ' hC' hI' => ?_
      have hd' : ∀ (i : Nat) o d, ops.toList[i]? = some o → o.dst = some d → d < X'.n := by rw [hS.n]; exact hd
      have hQ' : ∀ g' X2 s a w β, SameY X' X2 → K g' s → J g' X2.ext X2.w0 → Cov w1 M X2 → Inv X2 s a w β → Q .normal a w := fun g' X2 s a w β hS2 => hQ g' X2 s a w β (hS.trans hS2)
      cases t
      · exact textY_sound hE hst hy r (k + 1) X' none _ _ w' β hS.P hS.E (hS.pb.trans hpb) hd' hrest hQ' hf hJ' hC' hI'
      · exact textY_sound hE hst hy r (k + 1) X' (some (k' + 1)) _ _ w' β hS.P hS.E (hS.pb.trans hpb) hd' hrest hQ' ht hJ' hC' hI'

theorem vcY_sound {P : Program} {E : Env} (hE : EnvOK P E) (hm : P.follows .mixedOrders = true) (L : Sus) (hst : Stable J) (hy : YieldsTo P l0 es w1 M J) : ∀ (c : Code) (n : Nat) (Q : Exit → Option Nat → S → Prop) (Q' : Exit → Act → World → Prop) {X : Ctx} {g : Option Nat} {s : S} {a : Act} {w : World} {β : Nat → Value},
    X.P = P → X.E = E → X.pb = [] → codeB X.n L c = true → vcY P E L l0 es c Q g s → J g X.ext X.w0 → Cov w1 M X → Inv X s a w β → (∀ e g' X' s a w β, SameY X X' → Q e g' s → J g' X'.ext X'.w0 → Cov w1 M X' → Inv X' s a w β → Q' e a w) → c.wpIn (fenceR none) n P Q' a w
  | .skip, n, Q, Q', X, g, s, a, w, β, hP, hEE, hpb, hc, h, hJ, hC, hI, hQ => wpIn_skip (hQ .normal g X s a w β (SameY.refl X) h hJ hC hI)
  | .region id ops dr, n, Q, Q', X, g, s, a, w, β, hP, hEE, hpb, hc, h, hJ, hC, hI, hQ => by
    cases dr with
    | true =>
      subst hP; subst hEE
      exact region_sound (K := Q .normal g) hE hm (.inl rfl) hc (by rw [hpb]; exact h) hI fun s a w β hk hI => hQ .normal g X s a w β (SameY.refl X) hk hJ hC hI
    | false =>
      simp only [codeB, Bool.and_eq_true] at hc
      have := textY_sound (n := n) (Q := Q') hE hst hy ops.toList 0 X g s a w β hP hEE hpb (dsts_of hc.1) (fun j => by rw [Nat.zero_add]) (fun g' X' s a w β hS hk hJ hC hI => hQ .normal g' X' s a w β hS hk hJ hC hI) h hJ hC hI
      rw [Array.length_toList, ← List.range_eq_range'] at this
      exact wpIn_region this
  | .seq x y, n, Q, Q', X, g, s, a, w, β, hP, hEE, hpb, hc, h, hJ, hC, hI, hQ => by
    simp only [codeB, Bool.and_eq_true] at hc
    refine wpIn_seq (vcY_sound hE hm L hst hy x n _ _ hP hEE hpb hc.1 h hJ hC hI fun e g' X' s a w β hS hq hJ hC hI => ?_)
    cases e with
    | normal => exact vcY_sound hE hm L hst hy y n Q Q' (hS.P.trans hP) (hS.E.trans hEE) (hS.pb.trans hpb) (by rw [hS.n]; exact hc.2) hq hJ hC hI fun e g2 X2 s a w β hS2 => hQ e g2 X2 s a w β (hS.trans hS2)
    | exit i => exact hQ _ g' X' s a w β hS hq hJ hC hI
    | goto l => exact hQ _ g' X' s a w β hS hq hJ hC hI
    | ret => exact hQ _ g' X' s a w β hS hq hJ hC hI
    | panic ch => exact hQ _ g' X' s a w β hS hq hJ hC hI
    | outgrown => exact hQ _ g' X' s a w β hS hq hJ hC hI
  | .cond c x y, n, Q, Q', X, g, s, a, w, β, hP, hEE, hpb, hc, h, hJ, hC, hI, hQ => by
    simp only [codeB, Bool.and_eq_true] at hc
    simp only [vcY] at h
    unfold condA at h
    split at h
    · rename_i t ht
      have hv := hI.ev c
      rw [ht] at hv
      have hev : a.eval c = .bool t := by
        generalize a.eval c = vv at hv
        cases hv.to_c; rfl
      refine wpIn_cond hev ?_
      cases t with
      | true => exact vcY_sound hE hm L hst hy x n Q Q' hP hEE hpb hc.1 h hJ hC hI hQ
      | false => exact vcY_sound hE hm L hst hy y n Q Q' hP hEE hpb hc.2 h hJ hC hI hQ
    · exact h.elim
  | .block id c, n, Q, Q', X, g, s, a, w, β, hP, hEE, hpb, hc, h, hJ, hC, hI, hQ => by
    simp only [codeB] at hc
    refine wpIn_block (vcY_sound hE hm L hst hy c n _ _ hP hEE hpb hc h hJ hC hI fun e g' X' s a w β hS hq hJ hC hI => ?_)
    cases e with
    | normal => exact hQ _ g' X' s a w β hS hq hJ hC hI
    | exit i =>
      simp only [blockY] at hq
      simp only [Exit.inBlock]
      by_cases hi : i = id
      · rw [if_pos hi]
        rw [show (i == id) = true from by simpa using hi] at hq
        exact hQ _ g' X' s a w β hS hq hJ hC hI
      · rw [if_neg hi]
        rw [show (i == id) = false from by simpa using hi] at hq
        exact hQ _ g' X' s a w β hS hq hJ hC hI
    | goto l => exact hQ _ g' X' s a w β hS hq hJ hC hI
    | ret => exact hQ _ g' X' s a w β hS hq hJ hC hI
    | panic ch => exact hQ _ g' X' s a w β hS hq hJ hC hI
    | outgrown => exact hQ _ g' X' s a w β hS hq hJ hC hI
  | .loop c, n, Q, Q', X, g, s, a, w, β, hP, hEE, hpb, hc, h, hJ, hC, hI, hQ => by
    simp only [codeB] at hc
    obtain ⟨Y, inv, gh, st, μ, ⟨y0, rfl, he, hy0⟩, hround⟩ := h
    have henter : ∀ {X' : Ctx} {s s' : S} {a : Act} {w : World} {β : Nat → Value}, SameY X X' → Enter E [] s s' → Inv X' s a w β → ∃ β', Inv X' s' a w β' := fun {X' s s' a w β} hS he hI =>
      Enter.inv (X := X') (by rw [hS.P, hS.E, hP, hEE]; exact hE) (by rw [hS.E, hS.pb, hEE, hpb]; exact he) hI
    obtain ⟨β', hI'⟩ := henter (SameY.refl X) he hI
    refine rounds_in (I := fun a w k => ∃ y X' β, μ y = k ∧ inv y ∧ SameY X X' ∧ J (gh y) X'.ext X'.w0 ∧ Cov w1 M X' ∧ Inv X' (st y) a w β) ?_ (k := μ y0) ⟨y0, X, β', rfl, hy0, SameY.refl X, hJ, hC, hI'⟩
    rintro k a w ⟨y, X', β, rfl, hy1, hS, hJ, hC, hI⟩
    refine vcY_sound hE hm L hst hy c n _ _ (hS.P.trans hP) (hS.E.trans hEE) (hS.pb.trans hpb) (by rw [hS.n]; exact hc) (hround y hy1) hJ hC hI fun e g2 X2 s a w β hS2 hq hJ hC hI => ?_
    cases e with
    | normal =>
      obtain ⟨y', rfl, he', hy', hlt⟩ := hq
      obtain ⟨β', hI'⟩ := henter (hS.trans hS2) he' hI
      exact ⟨_, hlt, y', X2, β', rfl, hy', hS.trans hS2, hJ, hC, hI'⟩
    | exit i => exact hQ _ g2 X2 s a w β (hS.trans hS2) hq hJ hC hI
    | goto l => exact hQ _ g2 X2 s a w β (hS.trans hS2) hq hJ hC hI
    | ret => exact hQ _ g2 X2 s a w β (hS.trans hS2) hq hJ hC hI
    | panic ch => exact hQ _ g2 X2 s a w β (hS.trans hS2) hq hJ hC hI
    | outgrown => exact hQ _ g2 X2 s a w β (hS.trans hS2) hq hJ hC hI
  | .exit i, n, Q, Q', X, g, s, a, w, β, _, _, _, _, h, hJ, hC, hI, hQ => wpIn_exit (hQ _ g X s a w β (SameY.refl X) h hJ hC hI)
  | .ret, n, Q, Q', X, g, s, a, w, β, _, _, _, _, h, hJ, hC, hI, hQ => wpIn_ret (hQ _ g X s a w β (SameY.refl X) h hJ hC hI)
  | .rangeFunc _ _ _ _, _, _, _, _, _, _, _, _, _, _, _, _, _, h, _, _, _, _ => h.elim
  | .scope c, n, Q, Q', X, g, s, a, w, β, hP, hEE, hpb, hc, h, hJ, hC, hI, hQ => by
    simp only [codeB] at hc
    refine wpIn_scope (vcY_sound hE hm L hst hy c n _ _ hP hEE hpb hc h hJ hC hI fun e g' X' s a w β hS hq hJ hC hI => ?_)
    cases e with
    | normal => exact hQ _ g' X' s a w β hS hq hJ hC hI
    | exit i => exact hQ _ g' X' s a w β hS hq hJ hC hI
    | goto l => exact hq.elim
    | ret => exact hQ _ g' X' s a w β hS hq hJ hC hI
    | panic ch => exact hQ _ g' X' s a w β hS hq hJ hC hI
    | outgrown => exact hQ _ g' X' s a w β hS hq hJ hC hI
  | .label _, n, Q, Q', X, g, s, a, w, β, _, _, _, _, h, hJ, hC, hI, hQ => wpIn_label (hQ .normal g X s a w β (SameY.refl X) h hJ hC hI)
  | .goto _, _, _, _, _, _, _, _, _, _, _, _, _, _, h, _, _, _, _ => h.elim
  | .refuse _, _, _, _, _, _, _, _, _, _, _, _, _, _, h, _, _, _, _ => h.elim

end

/-- AN ITERATOR's CONTRACT, from the conditions on its body -/
theorem seqM_of_vc {P : Program} {E : Env} {f : Nat} {fn : Func} {c : Code} {L : Sus} {caps : List AV} {bx : List (Nat × Box)} {es : List (List AV)} (hE : EnvOK P E) (hm : P.follows .mixedOrders = true)
    (hf : P.funcs[f]? = some fn) (hb : fn.body = some c) (hn : (fn.name == "runtime.NumGoroutine") = false) (hres : fn.results.toList = []) (hc : codeB fn.ntmps L c = true) (ha : Nat.ble (caps.length + 1) fn.ntmps = true)
    (h : (∀ av ∈ caps, LenA av) → ∀ l, vcY P E L l es c (seqQ es) (some 0) ⟨frOf 0 (yieldV l :: caps), bx⟩) : SeqM P E f caps bx es := by
  have ha := Nat.le_of_ble_eq_true ha
  refine ⟨⟨fn, hf, hn, by rw [hb]; rfl⟩, fun w M β vals hM hface hvs hv l J hst hy hJ0 => ?_⟩
  have hlen : ∀ av ∈ caps, LenA av := fun av hav => by
    obtain ⟨j, hj⟩ := List.getElem?_of_mem hav
    exact (hv j av hj).len
  let X : Ctx := ⟨P, E, w, M, extOf bx β, fn.ntmps, [], fun _ => undef, [], []⟩
  obtain ⟨all, hall⟩ : ∃ all, all = #[Value.func (.yield l) #[] #[]] ++ vals := ⟨_, rfl⟩
  rw [← hall]
  have hasz : all.size = caps.length + 1 := by rw [hall, Array.size_append, hvs]; simp; omega
  refine calls_of (r := none) (n := 0) (callsIn_of_wp_marks hf hb trivial ?_)
  have hI : Inv X ⟨frOf 0 (yieldV l :: caps), bx⟩ ⟨all ++ Array.replicate (fn.ntmps - all.size) undef, []⟩ w β := by
    refine ⟨⟨rfl, List.nodup_nil, fun D hD => by cases hD⟩, ?_, ⟨rfl, rfl, rfl, Nat.le_refl _, fun _ _ _ => rfl⟩, hM, fun id => (hface.box id).ctx rfl fun k hl hb => ((hface.box id).lt hl hb).2, hface.inj, fun i => ?_, fun id => trivial⟩
    · show (all ++ Array.replicate (fn.ntmps - all.size) undef).size = fn.ntmps
      rw [Array.size_append, Array.size_replicate]; omega
    · show RV w _ _ _ ((all ++ Array.replicate (fn.ntmps - all.size) undef).getD i undef) (look i (frOf 0 (yieldV l :: caps)))
      rw [look_frOf, if_pos (Nat.zero_le _), Nat.sub_zero]
      cases hi : (yieldV l :: caps)[i]? with
      | none => exact .top _
      | some av =>
        have hlt : i < all.size := by
          have := (List.getElem?_eq_some_iff.1 hi).1
          simp only [List.length_cons] at this
          omega
        have e1 : (all ++ Array.replicate (fn.ntmps - all.size) undef).getD i undef = all.getD i undef := by
          simp only [Array.getD_eq_getD_getElem?, Array.getElem?_append_left hlt]
        rw [e1]
        cases i with
        | zero =>
          simp only [List.getElem?_cons_zero, Option.some.injEq] at hi
          subst hi
          have e2 : all.getD 0 undef = .func (.yield l) #[] #[] := by rw [hall, Array.getD_eq_getD_getElem?, Array.getElem?_append_left (by simp)]; rfl
          rw [e2]
          exact .c _ _ (.sc _ rfl)
        | succ j =>
          have e2 : all.getD (j + 1) undef = vals.getD j undef := by
            rw [hall]
            simp only [Array.getD_eq_getD_getElem?]
            rw [Array.getElem?_append_right (by simp)]
            simp
          rw [e2]
          exact hv j av (by simpa using hi)
  have hC : Cov w M X := ⟨fun b hb => by
    by_cases h1 : extOf bx β b
    · exact .inl h1
    · by_cases h2 : M b
      · exact .inr (.inr h2)
      · exact .inr (.inl ⟨hb, h2⟩), fun b ⟨id, hl, hb⟩ => ((hface.box id).lt hl hb).1, rfl⟩
  refine vcY_sound hE hm L hst hy c 0 _ _ (X := X) rfl rfl rfl hc (h hlen l) hJ0 hC hI fun e g' X' s a w' β' hS hq hJ hC hI => ?_
  have hmain : doneY es g' → LeavesInM (fenceR none) 0 P fn a.tmps (fun e w' => (∃ v, e = .returned v) ∧ ∃ it, J (some es.length) it w' ∨ J none it w') a.defers .returning w' := by
    intro hd
    have hdf : a.defers = [] := by
      rw [hI.df.1, hS.ds, hS.dt]; rfl
    rw [hdf]
    refine ⟨_, run_results (ts := []) hres a.tmps w', ⟨_, rfl⟩, fun b => X'.ext b ∨ (X'.w0.heap.size ≤ b ∧ b < w'.heap.size), ?_⟩
    have := hst g' X'.ext (fun b => X'.ext b ∨ (X'.w0.heap.size ≤ b ∧ b < w'.heap.size)) X'.w0 w' hJ hI.keep.os hI.keep.tape hI.keep.output hI.keep.size (fun b hb hn => hI.keep.block b hb hn) (fun b hb => .inl hb) fun b hb => hb
    cases g' with
    | some k =>
      have hd : k = es.length := hd
      subst hd
      exact .inl this
    | none => exact .inr this
  cases e with
  | normal => exact hmain hq
  | ret => exact hmain hq
  | exit i => exact hq.elim
  | goto l => exact hq.elim
  | panic ch => exact hq.elim
  | outgrown => exact hq.elim

end Go.Vx
end

section
set_option linter.unusedVariables false
set_option linter.unusedSimpArgs false
namespace Go.Vx
open Go Go.RowKit

def valA : AV → AV
  | .fr _ xs => .c (.sl xs)
  | r => r
theorem valA_fr (r : AV) : isFr (valA r) = false := by cases r <;> rfl

theorem ResV.val {E : Env} {w' : World} {B : Nat} {M M' : Nat → Prop} {v : Value} {r : AV} (h : ResV E w' B M v r) (hM : ∀ k, M' k → M k) (hB : ∀ k, M' k → k < B) : ResV E w' B M' v (valA r) := by
  have hw : ∀ {x : Value} {d : D}, Rp w' M x d → Rp w' M' x d := fun hr => hr.keep fun k _ hn => ⟨rfl, fun hm => hn (hM k hm)⟩
  cases r with
  | c d => exact hw h
  | ag ds =>
    obtain ⟨cs, h1, h2, h3⟩ := h
    exact ⟨cs, h1, h2, fun j d hd => hw (h3 j d hd)⟩
  | fr e xs =>
    obtain ⟨te, flat, hE, h0, hl, ho, hr⟩ := h
    show Rp w' M' v (.sl xs)
    have ho0 : w'.ownsRow 0 e te.size v xs.length flat := by
      refine ⟨ho.1, ?_⟩
      rcases ho.2 with hn | ⟨g, cap, cur, hv, _, rest⟩
      · exact .inl hn
      · exact .inr ⟨g, cap, cur, hv, Nat.zero_le _, rest⟩
    rcases ho.2 with ⟨hv, hn⟩ | ⟨g, cap, cur, hv, hb, hg, hnc, hcm, _⟩
    · rw [hv]
      have : xs = [] := List.length_eq_zero_iff.1 hn
      subst this
      exact Rp.nil _ _
    · rw [hv]
      refine .sl _ cap te.size xs (fun j => flat.getD j undef) hnc hcm h0 hl (fun _ => ⟨_, rfl, fun hm => ?_, fun j hj => ?_⟩) fun i x j d hx hd => hw (hr i x j d hx hd)
      · have := hB g hm
        omega
      · rw [hv] at ho0
        exact flat_cells ho0 j hj
  | _ => exact h

theorem Ok.val {P : Program} {E : Env} {f : Nat} {args : List AV} {e : Nat} {xs : List (List D)} (h : Ok P E f args (.fr e xs)) : Ok P E f args (.c (.sl xs)) := by
  refine ⟨h.1, fun w M vals hM hs hv => (h.2 w M vals hM hs hv).mono fun en w' hq => ?_⟩
  obtain ⟨v, he, hb, hr⟩ := hq
  refine ⟨v, he, hb, ?_⟩
  have hr' : ResV E w' w.heap.size (fun k => M k ∨ (isFr (.fr e xs) = true ∧ blk v = some k)) v (.fr e xs) := hr
  have hv := ResV.val (M' := fun k => M k ∨ (isFr (.c (.sl xs)) = true ∧ blk v = some k)) hr' (fun k hk => hk.elim .inl fun h => (by cases h.1)) fun k hk => hk.elim (hM k) fun h => (by cases h.1)
  exact hv

theorem Ok.vals {P : Program} {E : Env} {f : Nat} {args : List AV} {vs : List AV} (h : Ok P E f args (.tp vs)) : Ok P E f args (.tp (vs.map valA)) := by
  refine ⟨h.1, fun w M vals hM hs hv => (h.2 w M vals hM hs hv).mono fun en w' hq => ?_⟩
  obtain ⟨v, he, hb, arr, ha, hsz, hr⟩ := hq
  refine ⟨v, he, hb, arr, ha, by rw [List.length_map]; exact hsz, fun j r hj => ?_⟩
  rw [List.getElem?_map] at hj
  cases hx : vs[j]? with
  | none => rw [hx] at hj; cases hj
  | some r0 =>
    rw [hx] at hj
    injection hj with hj
    subst hj
    have hno : ∀ k, ¬ frBlk (vs.map valA) arr k := fun k hk => by
      obtain ⟨i, r, h1, h2, _⟩ := hk
      rw [List.getElem?_map] at h1
      cases hy : vs[i]? with
      | none => rw [hy] at h1; cases h1
      | some r1 =>
        rw [hy] at h1
        injection h1 with h1
        rw [← h1, valA_fr] at h2
        cases h2
    exact ResV.val (hr j r0 hx) (fun k hk => hk.elim .inl fun h => (hno k h).elim) fun k hk => hk.elim (hM k) fun h => (hno k h).elim

/-- an argument that is an empty slice: nil, or not -/
theorem Ok.empty {P : Program} {E : Env} {f : Nat} {r : AV} (h : ∀ A c, Ok P E f [.c (.sc (.slice A 0 c))] r) : Ok P E f [.c (.sl [])] r := by
  refine ⟨(h none 0).1, fun w M vals hM hs hv => ?_⟩
  have h0 := (hv 0 _ rfl).to_c
  generalize hx : vals.getD 0 undef = x at h0
  cases h0 with
  | sl A c size _ cell hc hm hz hsz hA hr =>
    refine (h A c).2 w M vals hM hs fun j av hj => ?_
    match j, hj with
    | 0, hj =>
      simp only [List.getElem?_cons_zero, Option.some.injEq] at hj
      subst hj
      rw [hx]
      exact .c _ _ (.sc _ rfl)
    | j + 1, hj => simp at hj

end Go.Vx
end
