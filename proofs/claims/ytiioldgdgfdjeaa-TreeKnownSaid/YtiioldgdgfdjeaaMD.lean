/-
  The types of the given program, as the verification-condition generator wants them. Written by the program 'envgen.py' out of the constants that the kit made. Conditions: none.
  From a row's arguments to values: what the form reads is by value, of its type; a law's contract gives its row. Conditions: none.
-/
import Derived.Test.YtiioldgdgfdjeaaMI
import Derived.Test.YtiioldgdgfdjeaaProg
import Derived.KernelRfl
import Derived.Test.YtiioldgdgfdjeaaRows
import Derived.WalkKit
import Derived.ProofKit
import Derived.SizedLaws
import Derived.OpenShut
import Derived.Carry

section
set_option maxRecDepth 20000
namespace Go.Vx
open Go Go.Proofs

def E : Env
  | 2 => some ⟨1, 8, [Value.int IntKind.i64 0], .int .i64, false⟩
  | 3 => some ⟨1, 8, [Value.int IntKind.i64 0], .int .i64, false⟩
  | 4 => some ⟨1, 1, [Value.bool false], .bool, false⟩
  | 5 => some ⟨1, 1, [Value.int IntKind.u8 0], .int .u8, false⟩
  | 9 => some ⟨1, 16, [Value.string { data := #[] }], .str, false⟩
  | 22 => some ⟨1, 24, [Value.slice none 0 0], .slice 26, false⟩
  | 26 => some ⟨2, 24, [Value.int IntKind.i64 0, Value.string { data := #[] }], .struct [(0, 3), (1, 9)], false⟩
  | 27 => some ⟨1, 8, [Value.int IntKind.i64 0], .int .i64, false⟩
  | 35 => some ⟨1, 24, [Value.slice none 0 0], .slice 3, false⟩
  | 38 => some ⟨1, 24, [Value.slice none 0 0], .slice 22, false⟩
  | 44 => some ⟨1, 24, [Value.slice none 0 0], .slice 9, false⟩
  | 45 => some ⟨1, 8, [Value.int IntKind.u64 0], .int .u64, false⟩
  | 52 => some ⟨1, 24, [Value.slice none 0 0], .slice 45, false⟩
  | 67 => some ⟨1, 8, [Value.pointer none], .other, false⟩
  | 68 => some ⟨1, 24, [Value.slice none 0 0], .slice 5, false⟩
  | 70 => some ⟨2, 32, [Value.pointer none, Value.slice none 0 0], .struct [(0, 67), (1, 68)], false⟩
  | 71 => some ⟨1, 8, [Value.nilFunc], .other, false⟩
  | 78 => some ⟨1, 24, [Value.slice none 0 0], .slice 35, true⟩
  | 83 => some ⟨1, 8, [Value.pointer none], .other, false⟩
  | 85 => some ⟨2, 24, [Value.string { data := #[] }, Value.int IntKind.i64 0], .struct [(0, 9), (1, 3)], false⟩
  | 87 => some ⟨2, 32, [Value.pointer none, Value.slice none 0 0], .struct [(0, 83), (1, 22)], false⟩
  | 93 => some ⟨1, 8, [Value.map none], .map 3 3, false⟩
  | 95 => some ⟨1, 8, [Value.map none], .map 9 4, false⟩
  | 105 => some ⟨1, 24, [Value.slice none 0 0], .slice 4, false⟩
  | _ => none

theorem E2 : E 2 = some ⟨1, 8, [Value.int IntKind.i64 0], .int .i64, false⟩ := rfl
theorem E3 : E 3 = some ⟨1, 8, [Value.int IntKind.i64 0], .int .i64, false⟩ := rfl
theorem E4 : E 4 = some ⟨1, 1, [Value.bool false], .bool, false⟩ := rfl
theorem E5 : E 5 = some ⟨1, 1, [Value.int IntKind.u8 0], .int .u8, false⟩ := rfl
theorem E9 : E 9 = some ⟨1, 16, [Value.string { data := #[] }], .str, false⟩ := rfl
theorem E22 : E 22 = some ⟨1, 24, [Value.slice none 0 0], .slice 26, false⟩ := rfl
theorem E26 : E 26 = some ⟨2, 24, [Value.int IntKind.i64 0, Value.string { data := #[] }], .struct [(0, 3), (1, 9)], false⟩ := rfl
theorem E27 : E 27 = some ⟨1, 8, [Value.int IntKind.i64 0], .int .i64, false⟩ := rfl
theorem E35 : E 35 = some ⟨1, 24, [Value.slice none 0 0], .slice 3, false⟩ := rfl
theorem E38 : E 38 = some ⟨1, 24, [Value.slice none 0 0], .slice 22, false⟩ := rfl
theorem E44 : E 44 = some ⟨1, 24, [Value.slice none 0 0], .slice 9, false⟩ := rfl
theorem E45 : E 45 = some ⟨1, 8, [Value.int IntKind.u64 0], .int .u64, false⟩ := rfl
theorem E52 : E 52 = some ⟨1, 24, [Value.slice none 0 0], .slice 45, false⟩ := rfl
theorem E67 : E 67 = some ⟨1, 8, [Value.pointer none], .other, false⟩ := rfl
theorem E68 : E 68 = some ⟨1, 24, [Value.slice none 0 0], .slice 5, false⟩ := rfl
theorem E70 : E 70 = some ⟨2, 32, [Value.pointer none, Value.slice none 0 0], .struct [(0, 67), (1, 68)], false⟩ := rfl
theorem E71 : E 71 = some ⟨1, 8, [Value.nilFunc], .other, false⟩ := rfl
theorem E78 : E 78 = some ⟨1, 24, [Value.slice none 0 0], .slice 35, true⟩ := rfl
theorem E83 : E 83 = some ⟨1, 8, [Value.pointer none], .other, false⟩ := rfl
theorem E85 : E 85 = some ⟨2, 24, [Value.string { data := #[] }, Value.int IntKind.i64 0], .struct [(0, 9), (1, 3)], false⟩ := rfl
theorem E87 : E 87 = some ⟨2, 32, [Value.pointer none, Value.slice none 0 0], .struct [(0, 83), (1, 22)], false⟩ := rfl
theorem E93 : E 93 = some ⟨1, 8, [Value.map none], .map 3 3, false⟩ := rfl
theorem E95 : E 95 = some ⟨1, 8, [Value.map none], .map 9 4, false⟩ := rfl
theorem E105 : E 105 = some ⟨1, 24, [Value.slice none 0 0], .slice 4, false⟩ := rfl

theorem fields_ok {n : Nat} {fields : Array Field} {fs : List (Nat × Nat)} (h1 : fields.toList.map (fun f => (f.offset, f.type)) = fs)
    (h2 : fields.toList.all (fun f => f.name != "_" && (match E f.type with | some ti => decide (0 < ti.size) && decide (f.offset + ti.size ≤ n) | none => false)) = true) : FieldsOK E n fields.toList fs := by
  refine ⟨h1, fun f hf => ?_⟩
  have := List.all_eq_true.1 h2 f hf
  simp only [Bool.and_eq_true, bne_iff_ne] at this
  refine ⟨this.1, ?_⟩
  cases hT : E f.type with
  | none => rw [hT] at this; exact absurd this.2 (by simp)
  | some ti =>
    rw [hT] at this
    simp only [Bool.and_eq_true, decide_eq_true_eq] at this
    exact ⟨ti, rfl, this.2.1, this.2.2⟩
def fieldsOf : Option TypeDesc → Array Field
  | some (.struct f) => f
  | _ => #[]

theorem T2 : TyOK Try.prog E 2 ⟨1, 8, [Value.int IntKind.i64 0], .int .i64, false⟩ := ⟨⟨Try.t2, _, Try.type2, rfl, rfl, rfl, rfl⟩, ⟨rfl, by simp [Value.oneCell']⟩, by decide, fun hk i z h1 h2 => (by first | (cases hk; done) | (have e : Try.prog.types[2]? = some i := h1; rw [Try.type2] at e; cases e; cases h2; rfl)), ⟨Try.underlying2, rfl⟩⟩
theorem T3 : TyOK Try.prog E 3 ⟨1, 8, [Value.int IntKind.i64 0], .int .i64, false⟩ := ⟨⟨Try.t3, _, Try.type3, rfl, rfl, rfl, rfl⟩, ⟨rfl, by simp [Value.oneCell']⟩, by decide, fun hk i z h1 h2 => (by first | (cases hk; done) | (have e : Try.prog.types[3]? = some i := h1; rw [Try.type3] at e; cases e; cases h2; rfl)), ⟨Try.underlying3, rfl⟩⟩
theorem T4 : TyOK Try.prog E 4 ⟨1, 1, [Value.bool false], .bool, false⟩ := ⟨⟨Try.t4, _, Try.type4, rfl, rfl, rfl, rfl⟩, ⟨rfl, by simp [Value.oneCell']⟩, by decide, fun hk i z h1 h2 => (by first | (cases hk; done) | (have e : Try.prog.types[4]? = some i := h1; rw [Try.type4] at e; cases e; cases h2; rfl)), ⟨Try.underlying4, rfl⟩⟩
theorem T5 : TyOK Try.prog E 5 ⟨1, 1, [Value.int IntKind.u8 0], .int .u8, false⟩ := ⟨⟨Try.t5, _, Try.type5, rfl, rfl, rfl, rfl⟩, ⟨rfl, by simp [Value.oneCell']⟩, by decide, fun hk i z h1 h2 => (by first | (cases hk; done) | (have e : Try.prog.types[5]? = some i := h1; rw [Try.type5] at e; cases e; cases h2; rfl)), ⟨Try.underlying5, rfl⟩⟩
theorem T9 : TyOK Try.prog E 9 ⟨1, 16, [Value.string { data := #[] }], .str, false⟩ := ⟨⟨Try.t9, _, Try.type9, rfl, rfl, rfl, rfl⟩, ⟨rfl, by simp [Value.oneCell']⟩, by decide, fun hk i z h1 h2 => (by first | (cases hk; done) | (have e : Try.prog.types[9]? = some i := h1; rw [Try.type9] at e; cases e; cases h2; rfl)), ⟨Try.underlying9, rfl⟩⟩
theorem T22 : TyOK Try.prog E 22 ⟨1, 24, [Value.slice none 0 0], .slice 26, false⟩ := ⟨⟨Try.t22, _, Try.type22, rfl, rfl, rfl, rfl⟩, ⟨rfl, by simp [Value.oneCell']⟩, by decide, fun hk i z h1 h2 => (by first | (cases hk; done) | (have e : Try.prog.types[22]? = some i := h1; rw [Try.type22] at e; cases e; cases h2; rfl)), ⟨Try.underlying22, rfl, _, rfl, by decide, by decide⟩⟩
theorem T26 : TyOK Try.prog E 26 ⟨2, 24, [Value.int IntKind.i64 0, Value.string { data := #[] }], .struct [(0, 3), (1, 9)], false⟩ := ⟨⟨Try.t26, _, Try.type26, rfl, rfl, rfl, rfl⟩, ⟨rfl, by simp [Value.oneCell']⟩, by decide, fun hk i z h1 h2 => (by first | (cases hk; done) | (have e : Try.prog.types[26]? = some i := h1; rw [Try.type26] at e; cases e; cases h2; rfl)), ⟨_, Try.underlying26, fields_ok (by kernel_rfl) (by kernel_rfl), by kernel_rfl, by kernel_rfl⟩⟩
theorem T27 : TyOK Try.prog E 27 ⟨1, 8, [Value.int IntKind.i64 0], .int .i64, false⟩ := ⟨⟨Try.t27, _, Try.type27, rfl, rfl, rfl, rfl⟩, ⟨rfl, by simp [Value.oneCell']⟩, by decide, fun hk i z h1 h2 => (by first | (cases hk; done) | (have e : Try.prog.types[27]? = some i := h1; rw [Try.type27] at e; cases e; cases h2; rfl)), ⟨Try.underlying27, rfl⟩⟩
theorem T35 : TyOK Try.prog E 35 ⟨1, 24, [Value.slice none 0 0], .slice 3, false⟩ := ⟨⟨Try.t35, _, Try.type35, rfl, rfl, rfl, rfl⟩, ⟨rfl, by simp [Value.oneCell']⟩, by decide, fun hk i z h1 h2 => (by first | (cases hk; done) | (have e : Try.prog.types[35]? = some i := h1; rw [Try.type35] at e; cases e; cases h2; rfl)), ⟨Try.underlying35, rfl, _, rfl, by decide, by decide⟩⟩
theorem T38 : TyOK Try.prog E 38 ⟨1, 24, [Value.slice none 0 0], .slice 22, false⟩ := ⟨⟨Try.t38, _, Try.type38, rfl, rfl, rfl, rfl⟩, ⟨rfl, by simp [Value.oneCell']⟩, by decide, fun hk i z h1 h2 => (by first | (cases hk; done) | (have e : Try.prog.types[38]? = some i := h1; rw [Try.type38] at e; cases e; cases h2; rfl)), ⟨Try.underlying38, rfl, _, rfl, by decide, by decide⟩⟩
theorem T44 : TyOK Try.prog E 44 ⟨1, 24, [Value.slice none 0 0], .slice 9, false⟩ := ⟨⟨Try.t44, _, Try.type44, rfl, rfl, rfl, rfl⟩, ⟨rfl, by simp [Value.oneCell']⟩, by decide, fun hk i z h1 h2 => (by first | (cases hk; done) | (have e : Try.prog.types[44]? = some i := h1; rw [Try.type44] at e; cases e; cases h2; rfl)), ⟨Try.underlying44, rfl, _, rfl, by decide, by decide⟩⟩
theorem T45 : TyOK Try.prog E 45 ⟨1, 8, [Value.int IntKind.u64 0], .int .u64, false⟩ := ⟨⟨Try.t45, _, Try.type45, rfl, rfl, rfl, rfl⟩, ⟨rfl, by simp [Value.oneCell']⟩, by decide, fun hk i z h1 h2 => (by first | (cases hk; done) | (have e : Try.prog.types[45]? = some i := h1; rw [Try.type45] at e; cases e; cases h2; rfl)), ⟨Try.underlying45, rfl⟩⟩
theorem T52 : TyOK Try.prog E 52 ⟨1, 24, [Value.slice none 0 0], .slice 45, false⟩ := ⟨⟨Try.t52, _, Try.type52, rfl, rfl, rfl, rfl⟩, ⟨rfl, by simp [Value.oneCell']⟩, by decide, fun hk i z h1 h2 => (by first | (cases hk; done) | (have e : Try.prog.types[52]? = some i := h1; rw [Try.type52] at e; cases e; cases h2; rfl)), ⟨Try.underlying52, rfl, _, rfl, by decide, by decide⟩⟩
theorem T67 : TyOK Try.prog E 67 ⟨1, 8, [Value.pointer none], .other, false⟩ := ⟨⟨Try.t67, _, Try.type67, rfl, rfl, rfl, rfl⟩, ⟨rfl, by simp [Value.oneCell']⟩, by decide, fun hk i z h1 h2 => (by first | (cases hk; done) | (have e : Try.prog.types[67]? = some i := h1; rw [Try.type67] at e; cases e; cases h2; rfl)), ⟨_, Try.underlying67, rfl, by simp, rfl⟩⟩
theorem T68 : TyOK Try.prog E 68 ⟨1, 24, [Value.slice none 0 0], .slice 5, false⟩ := ⟨⟨Try.t68, _, Try.type68, rfl, rfl, rfl, rfl⟩, ⟨rfl, by simp [Value.oneCell']⟩, by decide, fun hk i z h1 h2 => (by first | (cases hk; done) | (have e : Try.prog.types[68]? = some i := h1; rw [Try.type68] at e; cases e; cases h2; rfl)), ⟨Try.underlying68, rfl, _, rfl, by decide, by decide⟩⟩
theorem T70 : TyOK Try.prog E 70 ⟨2, 32, [Value.pointer none, Value.slice none 0 0], .struct [(0, 67), (1, 68)], false⟩ := ⟨⟨Try.t70, _, Try.type70, rfl, rfl, rfl, rfl⟩, ⟨rfl, by simp [Value.oneCell']⟩, by decide, fun hk i z h1 h2 => (by first | (cases hk; done) | (have e : Try.prog.types[70]? = some i := h1; rw [Try.type70] at e; cases e; cases h2; rfl)), ⟨_, Try.underlying70, fields_ok (by kernel_rfl) (by kernel_rfl), by kernel_rfl, by kernel_rfl⟩⟩
theorem T71 : TyOK Try.prog E 71 ⟨1, 8, [Value.nilFunc], .other, false⟩ := ⟨⟨Try.t71, _, Try.type71, rfl, rfl, rfl, rfl⟩, ⟨rfl, by simp [Value.oneCell']⟩, by decide, fun hk i z h1 h2 => (by first | (cases hk; done) | (have e : Try.prog.types[71]? = some i := h1; rw [Try.type71] at e; cases e; cases h2; rfl)), ⟨_, Try.underlying71, rfl, by simp, rfl⟩⟩
theorem T78 : TyOK Try.prog E 78 ⟨1, 24, [Value.slice none 0 0], .slice 35, true⟩ := ⟨⟨Try.t78, _, Try.type78, rfl, rfl, rfl, rfl⟩, ⟨rfl, by simp [Value.oneCell']⟩, by decide, fun hk i z h1 h2 => (by first | (cases hk; done) | (have e : Try.prog.types[78]? = some i := h1; rw [Try.type78] at e; cases e; cases h2; rfl)), ⟨Try.underlying78, rfl, _, rfl, by decide, by decide⟩⟩
theorem T83 : TyOK Try.prog E 83 ⟨1, 8, [Value.pointer none], .other, false⟩ := ⟨⟨Try.t83, _, Try.type83, rfl, rfl, rfl, rfl⟩, ⟨rfl, by simp [Value.oneCell']⟩, by decide, fun hk i z h1 h2 => (by first | (cases hk; done) | (have e : Try.prog.types[83]? = some i := h1; rw [Try.type83] at e; cases e; cases h2; rfl)), ⟨_, Try.underlying83, rfl, by simp, rfl⟩⟩
theorem T85 : TyOK Try.prog E 85 ⟨2, 24, [Value.string { data := #[] }, Value.int IntKind.i64 0], .struct [(0, 9), (1, 3)], false⟩ := ⟨⟨Try.t85, _, Try.type85, rfl, rfl, rfl, rfl⟩, ⟨rfl, by simp [Value.oneCell']⟩, by decide, fun hk i z h1 h2 => (by first | (cases hk; done) | (have e : Try.prog.types[85]? = some i := h1; rw [Try.type85] at e; cases e; cases h2; rfl)), ⟨_, Try.underlying85, fields_ok (by kernel_rfl) (by kernel_rfl), by kernel_rfl, by kernel_rfl⟩⟩
theorem T87 : TyOK Try.prog E 87 ⟨2, 32, [Value.pointer none, Value.slice none 0 0], .struct [(0, 83), (1, 22)], false⟩ := ⟨⟨Try.t87, _, Try.type87, rfl, rfl, rfl, rfl⟩, ⟨rfl, by simp [Value.oneCell']⟩, by decide, fun hk i z h1 h2 => (by first | (cases hk; done) | (have e : Try.prog.types[87]? = some i := h1; rw [Try.type87] at e; cases e; cases h2; rfl)), ⟨_, Try.underlying87, fields_ok (by kernel_rfl) (by kernel_rfl), by kernel_rfl, by kernel_rfl⟩⟩
theorem T93 : TyOK Try.prog E 93 ⟨1, 8, [Value.map none], .map 3 3, false⟩ := ⟨⟨Try.t93, _, Try.type93, rfl, rfl, rfl, rfl⟩, ⟨rfl, by simp [Value.oneCell']⟩, by decide, fun hk i z h1 h2 => (by first | (cases hk; done) | (have e : Try.prog.types[93]? = some i := h1; rw [Try.type93] at e; cases e; cases h2; rfl)), ⟨Try.underlying93, rfl⟩⟩
theorem T95 : TyOK Try.prog E 95 ⟨1, 8, [Value.map none], .map 9 4, false⟩ := ⟨⟨Try.t95, _, Try.type95, rfl, rfl, rfl, rfl⟩, ⟨rfl, by simp [Value.oneCell']⟩, by decide, fun hk i z h1 h2 => (by first | (cases hk; done) | (have e : Try.prog.types[95]? = some i := h1; rw [Try.type95] at e; cases e; cases h2; rfl)), ⟨Try.underlying95, rfl⟩⟩
theorem T105 : TyOK Try.prog E 105 ⟨1, 24, [Value.slice none 0 0], .slice 4, false⟩ := ⟨⟨Try.t105, _, Try.type105, rfl, rfl, rfl, rfl⟩, ⟨rfl, by simp [Value.oneCell']⟩, by decide, fun hk i z h1 h2 => (by first | (cases hk; done) | (have e : Try.prog.types[105]? = some i := h1; rw [Try.type105] at e; cases e; cases h2; rfl)), ⟨Try.underlying105, rfl, _, rfl, by decide, by decide⟩⟩

theorem envOK : EnvOK Try.prog E := by
  intro T ti h
  unfold E at h
  split at h <;> first | (cases h; done) | (injection h with h; subst h; first | exact T2 | exact T3 | exact T4 | exact T5 | exact T9 | exact T22 | exact T26 | exact T27 | exact T35 | exact T38 | exact T44 | exact T45 | exact T52 | exact T67 | exact T68 | exact T70 | exact T71 | exact T78 | exact T83 | exact T85 | exact T87 | exact T93 | exact T95 | exact T105)
theorem mixed : Try.prog.follows .mixedOrders = true := by kernel_rfl

end Go.Vx
end

namespace Go.Vx
open Go Go.Proofs
theorem VE : (E 2 = some ⟨1, 8, [Value.int IntKind.i64 0], .int .i64, false⟩) ∧
  (E 3 = some ⟨1, 8, [Value.int IntKind.i64 0], .int .i64, false⟩) ∧
  (E 4 = some ⟨1, 1, [Value.bool false], .bool, false⟩) ∧
  (E 5 = some ⟨1, 1, [Value.int IntKind.u8 0], .int .u8, false⟩) ∧
  (E 9 = some ⟨1, 16, [Value.string { data := #[] }], .str, false⟩) ∧
  (E 22 = some ⟨1, 24, [Value.slice none 0 0], .slice 26, false⟩) ∧
  (E 26 = some ⟨2, 24, [Value.int IntKind.i64 0, Value.string { data := #[] }], .struct [(0, 3), (1, 9)], false⟩) ∧
  (E 27 = some ⟨1, 8, [Value.int IntKind.i64 0], .int .i64, false⟩) ∧
  (E 35 = some ⟨1, 24, [Value.slice none 0 0], .slice 3, false⟩) ∧
  (E 38 = some ⟨1, 24, [Value.slice none 0 0], .slice 22, false⟩) ∧
  (E 44 = some ⟨1, 24, [Value.slice none 0 0], .slice 9, false⟩) ∧
  (E 45 = some ⟨1, 8, [Value.int IntKind.u64 0], .int .u64, false⟩) ∧
  (E 52 = some ⟨1, 24, [Value.slice none 0 0], .slice 45, false⟩) ∧
  (E 67 = some ⟨1, 8, [Value.pointer none], .other, false⟩) ∧
  (E 68 = some ⟨1, 24, [Value.slice none 0 0], .slice 5, false⟩) ∧
  (E 70 = some ⟨2, 32, [Value.pointer none, Value.slice none 0 0], .struct [(0, 67), (1, 68)], false⟩) ∧
  (E 71 = some ⟨1, 8, [Value.nilFunc], .other, false⟩) ∧
  (E 78 = some ⟨1, 24, [Value.slice none 0 0], .slice 35, true⟩) ∧
  (E 83 = some ⟨1, 8, [Value.pointer none], .other, false⟩) ∧
  (E 85 = some ⟨2, 24, [Value.string { data := #[] }, Value.int IntKind.i64 0], .struct [(0, 9), (1, 3)], false⟩) ∧
  (E 87 = some ⟨2, 32, [Value.pointer none, Value.slice none 0 0], .struct [(0, 83), (1, 22)], false⟩) ∧
  (E 93 = some ⟨1, 8, [Value.map none], .map 3 3, false⟩) ∧
  (E 95 = some ⟨1, 8, [Value.map none], .map 9 4, false⟩) ∧
  (E 105 = some ⟨1, 24, [Value.slice none 0 0], .slice 4, false⟩) :=
  ⟨E2, E3, E4, E5, E9, E22, E26, E27, E35, E38, E44, E45, E52, E67, E68, E70, E71, E78, E83, E85, E87, E93, E95, E105⟩
theorem VZ : type_of% (And.intro VL <| And.intro VB <| And.intro V1 <| And.intro V2 <| And.intro V3 <| And.intro V4 <| And.intro V5 <| And.intro V6 <| And.intro V7 <| And.intro V8 <| And.intro V9 <| And.intro V10 <| And.intro V11 <| And.intro V12 <| And.intro V13 <| And.intro V14 VE) := And.intro VL <| And.intro VB <| And.intro V1 <| And.intro V2 <| And.intro V3 <| And.intro V4 <| And.intro V5 <| And.intro V6 <| And.intro V7 <| And.intro V8 <| And.intro V9 <| And.intro V10 <| And.intro V11 <| And.intro V12 <| And.intro V13 <| And.intro V14 VE
end Go.Vx

section
set_option linter.unusedVariables false
set_option maxRecDepth 20000
set_option linter.unusedSimpArgs false
namespace Go.Vx
open Go Go.RowKit Go.ChangeShapes Go.WideShapes Go.ChangeAt

def tileB (P : Program) : Nat → List Field → Nat → Bool
  | o, [], n => o == n
  | o, f :: r, n => f.offset == o && tileB P (o + P.cellsOf f.type) r n
def plainT (P : Program) (rec : TypeId → Bool) (n : Nat) : Option TypeDesc → Bool
  | some (.int _) => true
  | some .bool => true
  | some .string => true
  | some (.slice e) => rec e && Nat.ble 1 (P.cellsOf e)
  | some (.struct fs) => tileB P 0 fs.toList n && fs.toList.all fun f => rec f.type
  | _ => false
def plainB (P : Program) : Nat → TypeId → Bool
  | 0, _ => false
  | m + 1, t => plainT P (plainB P m) (P.cellsOf t) (P.underlying t)
def TypedFs (T : TypeId → List D → Prop) : List Field → List D → Prop
  | [], ds => ds = []
  | f :: r, ds => ∃ a b, ds = a ++ b ∧ T f.type a ∧ TypedFs T r b
def TypedK (T : TypeId → List D → Prop) (n : Nat) : Option TypeDesc → List D → Prop
  | some (.int k), ds => ∃ m, ds = [.sc (.int k m)] ∧ (Lit.int k m).wf = true
  | some .bool, ds => ∃ b, ds = [.sc (.bool b)]
  | some .string, ds => ∃ s, ds = [.sc (.string s)] ∧ s.size ≤ maxLen
  | some (.slice e), ds => ∃ xs, ds = [.sl xs] ∧ (∀ x ∈ xs, T e x) ∧ xs.length ≤ maxLen
  | some (.struct fs), ds => TypedFs T fs.toList ds
  | _, _ => False
/-- 'ds' are values of type t -/
def Typed (P : Program) : Nat → TypeId → List D → Prop
  | 0, _, _ => False
  | m + 1, t, ds => TypedK (Typed P m) (P.cellsOf t) (P.underlying t) ds

section
variable {H : Type} {enc : TypeId × Value → H} {P : Program} {w : World}
def Read (w : World) (cs : List Value) (ds : List D) : Prop := cs.length = ds.length ∧ ∀ j d, ds[j]? = some d → Rp w (fun _ => False) (cs.getD j undef) d
theorem Read.one {v : Value} {d : D} (h : Rp w (fun _ => False) v d) : Read w [v] [d] := by
  refine ⟨rfl, fun j d' hj => ?_⟩
  match j, hj with
  | 0, hj =>
    simp only [List.getElem?_cons_zero, Option.some.injEq] at hj
    subst hj; exact h
  | j + 1, hj => simp at hj
theorem Read.app {a b : List Value} {c d : List D} (h : Read w a c) (h' : Read w b d) : Read w (a ++ b) (c ++ d) := by
  refine ⟨by rw [List.length_append, List.length_append, h.1, h'.1], fun j x hj => ?_⟩
  have hl := h.1
  by_cases hlt : j < c.length
  · rw [List.getElem?_append_left hlt] at hj
    rw [List.getD, List.getElem?_append_left (by omega)]
    exact h.2 j x hj
  · rw [List.getElem?_append_right (by omega)] at hj
    rw [List.getD, List.getElem?_append_right (by omega), hl]
    exact h'.2 _ x hj

theorem fields_read {T : TypeId → List D → Prop} {cs : List Value} : ∀ (fs : List Field) (o n : Nat), tileB P o fs n = true → cs.length = n → o ≤ n →
    (∀ f ∈ fs, ∃ ds, T f.type ds ∧ Read w ((cs.drop f.offset).take (P.cellsOf f.type)) ds) → ∃ ds, TypedFs T fs ds ∧ Read w (cs.drop o) ds
  | [], o, n, ht, hc, ho, _ => by
    simp only [tileB, beq_iff_eq] at ht
    exact ⟨[], rfl, by rw [List.drop_eq_nil_of_le (by omega)]; rfl, fun j d hj => by simp at hj⟩
  | f :: r, o, n, ht, hc, ho, h => by
    simp only [tileB, Bool.and_eq_true, beq_iff_eq] at ht
    obtain ⟨a, ha, hra⟩ := h f (List.mem_cons_self ..)
    have hle : ∀ (r : List Field) (o n : Nat), tileB P o r n = true → o ≤ n := by
      intro r
      induction r with
      | nil => intro o n h; simp only [tileB, beq_iff_eq] at h; omega
      | cons f r ih =>
        intro o n h
        simp only [tileB, Bool.and_eq_true, beq_iff_eq] at h
        have := ih _ _ h.2
        omega
    obtain ⟨b, hb, hrb⟩ := fields_read r (o + P.cellsOf f.type) n ht.2 hc (hle r _ _ ht.2) fun g hg => h g (List.mem_cons_of_mem _ hg)
    refine ⟨a ++ b, ⟨a, b, rfl, ha, hb⟩, ?_⟩
    rw [ht.1] at hra
    have e : cs.drop o = (cs.drop o).take (P.cellsOf f.type) ++ cs.drop (o + P.cellsOf f.type) := by
      rw [← List.drop_drop, List.take_append_drop]
    rw [e]
    exact hra.app hrb

theorem typed_of_trod {base : Nat} {spare : Nat → Bool} {held : Bool} : ∀ (m : Nat) (t : TypeId), plainB P m t = true → ∀ (fuel : Nat) (cs : List Value) (x : DataW H × List MemPlace), DataW.trod enc P w base spare held fuel t cs = some x →
    ∃ ds, Typed P m t ds ∧ Read w cs ds
  | 0, t, hp, _, _, _, _ => by cases hp
  | m + 1, t, hp, fuel, cs, x, h => by
    unfold plainB at hp
    unfold plainT at hp
    split at hp
    · rename_i k hu
      obtain ⟨n, rfl, _, hw⟩ := DataW.trod_int hu h
      exact ⟨[.sc (.int k n)], by rw [Typed, hu]; exact ⟨n, rfl, hw⟩, Read.one (.sc _ rfl)⟩
    · rename_i hu
      obtain ⟨b, rfl, _⟩ := DataW.trod_bool hu h
      exact ⟨[.sc (.bool b)], by rw [Typed, hu]; exact ⟨b, rfl⟩, Read.one (.sc _ rfl)⟩
    · rename_i hu
      obtain ⟨s, rfl, _, hs⟩ := DataW.trod_string hu h
      exact ⟨[.sc (.string s)], by rw [Typed, hu]; exact ⟨s, rfl, hs⟩, Read.one (.sc _ rfl)⟩
    · rename_i e hu
      simp only [Bool.and_eq_true] at hp
      obtain ⟨hpe, hC⟩ := hp
      have hC := Nat.le_of_ble_eq_true hC
      rcases DataW.trod_slice hu h with ⟨rfl, _⟩ | ⟨a, len, cap, elems, rest, n, _, rfl, _, _, hlc, hcm, hel, hi, _, _⟩
      · exact ⟨[.sl []], by rw [Typed, hu]; exact ⟨[], rfl, by simp, by simp⟩, Read.one (Rp.nil w _)⟩
      · have hex : ∀ i, i < len → ∃ ds cs', Typed P m e ds ∧ w.cells? base (a.add (i * P.cellsOf e)) (P.cellsOf e) = some cs' ∧ Read w cs' ds := fun i hl => by
          have := hi i hl
          rw [List.getElem?_eq_getElem (by omega), Option.bind_eq_some_iff] at this
          obtain ⟨cs', h1, h2⟩ := this
          obtain ⟨ds, h3, h4⟩ := typed_of_trod m e hpe n cs' _ h2
          exact ⟨ds, cs', h3, h1, h4⟩
        have hf : ∃ (f : Nat → List D) (g : Nat → List Value), ∀ i, i < len → Typed P m e (f i) ∧ w.cells? base (a.add (i * P.cellsOf e)) (P.cellsOf e) = some (g i) ∧ Read w (g i) (f i) := by
          refine ⟨fun i => if hl : i < len then (hex i hl).choose else [], fun i => if hl : i < len then (hex i hl).choose_spec.choose else [], fun i hl => ?_⟩
          simp only [dif_pos hl]
          exact (hex i hl).choose_spec.choose_spec
        obtain ⟨f, g, hfg⟩ := hf
        have hlen : ((List.range len).map f).length = len := by simp
        have hget : ∀ i y, ((List.range len).map f)[i]? = some y → i < len ∧ y = f i := fun i y hy => by
          have hl : i < len := by have := (List.getElem?_eq_some_iff.1 hy).1; omega
          rw [List.getElem?_map, List.getElem?_range hl] at hy
          injection hy with hy
          exact ⟨hl, hy.symm⟩
        have hsz : ∀ i, i < len → (f i).length = P.cellsOf e ∧ (g i).length = P.cellsOf e := fun i hl => by
          obtain ⟨_, h2, h3⟩ := hfg i hl
          obtain ⟨_, h4, _⟩ := World.cells?_some h2
          exact ⟨by rw [← h3.1, h4], h4⟩
        refine ⟨[.sl ((List.range len).map f)], ?_, Read.one ?_⟩
        · rw [Typed, hu]
          refine ⟨_, rfl, fun y hy => ?_, by omega⟩
          obtain ⟨i, hi'⟩ := List.getElem?_of_mem hy
          obtain ⟨hl, rfl⟩ := hget i y hi'
          exact (hfg i hl).1
        · have key : Rp w (fun _ => False) (.slice (some a) ((List.range len).map f).length cap) (.sl ((List.range len).map f)) := by
            have hcell : ∀ i j, i < len → j < P.cellsOf e → w.cell? (a.add (i * P.cellsOf e + j)) = some ((g i).getD j undef) := fun i j hl hj => by
              obtain ⟨_, h2, _⟩ := hfg i hl
              obtain ⟨_, h4, h5⟩ := World.cells?_some h2
              have := h5 j hj
              rw [add_of_add] at this
              rw [this, List.getD, List.getElem?_eq_getElem (by omega)]; rfl
            refine .sl (some a) cap (P.cellsOf e) _ (fun q => (g (q / P.cellsOf e)).getD (q % P.cellsOf e) undef) (by omega) hcm (by omega) (fun y hy => ?_) (fun _ => ⟨a, rfl, fun h => h, fun q hq => ?_⟩) fun i y j d hy hd => ?_
            · obtain ⟨i, hi'⟩ := List.getElem?_of_mem hy
              obtain ⟨hl, rfl⟩ := hget i y hi'
              exact (hsz i hl).1
            · rw [hlen] at hq
              have h1 : q / P.cellsOf e < len := Nat.div_lt_of_lt_mul (by rw [Nat.mul_comm]; exact hq)
              have h2 : q % P.cellsOf e < P.cellsOf e := Nat.mod_lt _ (by omega)
              have := hcell _ _ h1 h2
              rw [Nat.mul_comm (q / P.cellsOf e), Nat.div_add_mod] at this
              exact this
            · obtain ⟨hl, rfl⟩ := hget i y hy
              have hj : j < P.cellsOf e := by
                have := (List.getElem?_eq_some_iff.1 hd).1
                rw [(hsz i hl).1] at this; exact this
              have e1 : (i * P.cellsOf e + j) / P.cellsOf e = i := by
                rw [Nat.mul_comm, Nat.mul_add_div (by omega), Nat.div_eq_of_lt hj, Nat.add_zero]
              have e2 : (i * P.cellsOf e + j) % P.cellsOf e = j := by
                rw [Nat.mul_comm, Nat.mul_add_mod, Nat.mod_eq_of_lt hj]
              show Rp w _ ((g ((i * P.cellsOf e + j) / P.cellsOf e)).getD ((i * P.cellsOf e + j) % P.cellsOf e) undef) d
              rw [e1, e2]
              exact (hfg i hl).2.2.2 j d hd
          rwa [hlen] at key
    · rename_i fs hu
      simp only [Bool.and_eq_true] at hp
      obtain ⟨xs, n, _, _, hcl, hxl, hf⟩ := DataW.trod_struct hu h
      obtain ⟨ds, h1, h2⟩ := fields_read (w := w) (T := Typed P m) (cs := cs) fs.toList 0 (P.cellsOf t) hp.1 hcl (Nat.zero_le _) fun f hf' => by
        obtain ⟨i, hi⟩ := List.getElem?_of_mem hf'
        rw [Array.getElem?_toList] at hi
        have hil : i < fs.size := (Array.getElem?_eq_some_iff.1 hi).1
        have h3 := hf i f hi
        rw [List.getElem?_eq_getElem (by omega)] at h3
        exact typed_of_trod m f.type (List.all_eq_true.1 hp.2 f hf') n _ _ h3
      exact ⟨ds, by rw [Typed, hu]; exact h1, by rwa [List.drop_zero] at h2⟩
    · cases hp

def argAV (P : Program) (t : TypeId) (ds : List D) : AV :=
  match P.underlying t with
  | some (.struct _) => .ag ds
  | _ => .c (ds.headD (.sl []))
theorem arg_read {r : Reach} {base b0 m : Nat} {spare : Nat → Bool} {held : Bool} {t : TypeId} {v : Value} {d : DataW H} {p : List MemPlace} (hm : plainB P m t = true) (hok : Value.okWide P w r base t v) (h : DataW.Trod enc P w b0 spare held t v d p) :
    ∃ ds, Typed P m t ds ∧ RV w (fun _ => False) (fun _ => undef) (fun _ => .dead) v (argAV P t ds) := by
  obtain ⟨fuel, hf⟩ := h
  obtain ⟨ds, h1, h2⟩ := typed_of_trod m t hm fuel _ _ hf
  refine ⟨ds, h1, ?_⟩
  have hone : ∀ {v : Value}, Read w [v] ds → RV w (fun _ => False) (fun _ => undef) (fun _ => .dead) v (.c (ds.headD (.sl []))) := fun {v} h => by
    obtain ⟨hl, hr⟩ := h
    match ds, hl with
    | [d], _ => exact .c _ _ (hr 0 d rfl)
  cases m with
  | zero => cases hm
  | succ m =>
    unfold plainB plainT at hm
    split at hm
    · rename_i k hu
      obtain ⟨n, rfl⟩ := okWide_int hu hok
      rw [argAV, hu]; exact hone h2
    · rename_i hu
      obtain ⟨n, rfl⟩ := okWide_bool hu hok
      rw [argAV, hu]; exact hone h2
    · rename_i hu
      obtain ⟨n, rfl⟩ := okWide_string hu hok
      rw [argAV, hu]; exact hone h2
    · rename_i e hu
      obtain ⟨_, _, _, rfl⟩ := okWide_slice hu hok
      rw [argAV, hu]; exact hone h2
    · rename_i fs hu
      obtain ⟨cs, rfl, _⟩ := okWide_struct hu hok
      rw [argAV, hu]
      refine .ag cs ds (by have := h2.1; simpa [Value.cells] using this) fun j d hj => ?_
      have := h2.2 j d hj
      simpa [Value.cells, List.getD, Array.getD_eq_getD_getElem?, Array.getElem?_toList] using this
    · cases hm

def TypedL (P : Program) (m : Nat) : List TypeId → List (List D) → Prop
  | [], [] => True
  | t :: ts, ds :: dss => Typed P m t ds ∧ TypedL P m ts dss
  | _, _ => False
def argsAV (P : Program) : List TypeId → List (List D) → List AV
  | t :: ts, ds :: dss => argAV P t ds :: argsAV P ts dss
  | _, _ => []
theorem args_read {r : Reach} {base b0 m : Nat} {spare : Nat → Bool} {held : Bool} : ∀ {ts : List TypeId} {vs : List Value} {ds : List (DataW H)} {p : List MemPlace}, ts.all (plainB P m) = true → (∀ (j : Nat) t v, ts[j]? = some t → vs[j]? = some v → Value.okWide P w r base t v) →
    DataW.TrodAll enc P w b0 spare held ts vs ds p → ∃ dss, TypedL P m ts dss ∧ (argsAV P ts dss).length = vs.length ∧ ∀ (j : Nat) av, (argsAV P ts dss)[j]? = some av → RV w (fun _ => False) (fun _ => undef) (fun _ => .dead) (vs.getD j undef) av
  | [], vs, ds, p, _, _, h => by
    obtain ⟨rfl, _, _⟩ := trodAll_nil h
    exact ⟨[], trivial, rfl, fun j av hj => by simp [argsAV] at hj⟩
  | t :: ts, vs, ds, p, hp, hok, h => by
    obtain ⟨v0, vs0, d0, ds0, p0, q0, rfl, rfl, rfl, h0, r0⟩ := trodAll_cons h
    simp only [List.all_cons, Bool.and_eq_true] at hp
    obtain ⟨ds1, h1, h2⟩ := arg_read hp.1 (hok 0 t v0 rfl rfl) h0
    obtain ⟨dss, h3, h4, h5⟩ := args_read hp.2 (fun j t v hj hv => hok (j + 1) t v hj hv) r0
    refine ⟨ds1 :: dss, ⟨h1, h3⟩, by simp only [argsAV, List.length_cons, h4], fun j av hj => ?_⟩
    match j, hj with
    | 0, hj =>
      simp only [argsAV, List.getElem?_cons_zero, Option.some.injEq] at hj
      subst hj; exact h2
    | j + 1, hj => exact h5 j av hj

theorem args_stay {W W' : World} (hl : laidOutB P = true) (hb : Below W.heap.size W W') : ∀ {ts : List TypeId} {vs : List Value} {ds : List (DataW H)} {p : List MemPlace}, (ts.all fun t => P.readableRec t && Nat.blt t P.types.size) = true →
    DataW.TrodAll enc P W 0 (fun _ => true) true ts vs ds p → (∀ x ∈ p, x.block < W.heap.size) → DataW.TrodAll enc P W' 0 (fun b => decide (b < W.heap.size)) true ts vs ds p
  | [], vs, ds, p, _, h, _ => by
    obtain ⟨rfl, rfl, rfl⟩ := trodAll_nil h
    exact trodAll_mk0
  | t :: ts, vs, ds, p, hr, h, hlt => by
    obtain ⟨v0, vs0, d0, ds0, p0, q0, rfl, rfl, rfl, h0, r0⟩ := trodAll_cons h
    simp only [List.all_cons, Bool.and_eq_true] at hr
    exact trodAll_cons_mk (Below.trod hl hr.1.1 (Nat.le_of_ble_eq_true hr.1.2) h0 hb fun x hx => hlt x (List.mem_append_left _ hx)) (args_stay hl hb hr.2 r0 fun x hx => hlt x (List.mem_append_right _ hx))
end

theorem trodAll_len {H : Type} {enc : TypeId × Value → H} {P : Program} {w : World} {b0 : Nat} {spare : Nat → Bool} {held : Bool} : ∀ {ts : List TypeId} {vs : List Value} {ds : List (DataW H)} {p : List MemPlace}, DataW.TrodAll enc P w b0 spare held ts vs ds p → vs.length = ts.length ∧ ds.length = ts.length
  | [], vs, ds, p, h => by
    obtain ⟨rfl, rfl, _⟩ := trodAll_nil h
    exact ⟨rfl, rfl⟩
  | t :: ts, vs, ds, p, h => by
    obtain ⟨v0, vs0, d0, ds0, p0, q0, rfl, rfl, rfl, h0, r0⟩ := trodAll_cons h
    have := trodAll_len r0
    simp only [List.length_cons]
    omega

/-- a law's step: the contract 'it returns true' gives the row's -/
theorem law_lifted {f : FuncId} {fn : Func} {s : ChangeSpec} {m tb : Nat} (os : Os) (started : os.Started) (H : Type) (enc : TypeId × Value → H) (own : ownKnob Go.Proofs.Try.prog.godebug = none) (hl : laidOutB Go.Proofs.Try.prog = true)
    (noInit : Go.Proofs.Try.prog.inits.idxOf? f = none) (hfn : Go.Proofs.Try.prog.funcs[f]? = some fn) (hres : fn.resultTypes = #[tb]) (htb : Go.Proofs.Try.prog.underlying tb = some .bool) (hvars : s.vars = [])
    (hspec : ∀ ds : List (DataW H), ds.length = fn.params.toList.length → (s.fn H ds).results = [.lit (.bool true)] ∧ (s.fn H ds).args = ds ∧ (s.fn H ds).vars = [])
    (hplain : fn.params.toList.all (plainB Go.Proofs.Try.prog m) = true) (hread : (fn.params.toList.all fun t => Go.Proofs.Try.prog.readableRec t && Nat.blt t Go.Proofs.Try.prog.types.size) = true)
    (wit : ∃ (w : World) (tape : Tape) (i : Input), w.os = os ∧ (w.forCall tape i).Shaped Go.Proofs.Try.checked.prog ∧ i.vars = [] ∧ Input.okWide Go.Proofs.Try.checked.prog (w.forCall tape i) .any w.heap.size f i ∧
      s.pre6 enc Go.Proofs.Try.checked.prog fn [] false (w.forCall tape i).memory i.args ∧ ({ modest := false } : Assume).holds Go.Proofs.Try.checked.prog (lone (Frame.enter Go.Proofs.Try.checked.prog f i.args .normal) [] (w.forCall tape i)))
    (hok : ∀ dss, TypedL Go.Proofs.Try.prog m fn.params.toList dss → Ok Go.Proofs.Try.prog E f (argsAV Go.Proofs.Try.prog fn.params.toList dss) (.c (.sc (.bool true)))) :
    ReturnsInHanded {} Go.Proofs.Try.checked os f .any (s.pre6 enc Go.Proofs.Try.prog fn [] false) (s.post enc Go.Proofs.Try.prog fn false true false false) := by
  refine returnsInHanded_of_change_sized (C := Go.Proofs.Try.checked) own started noInit hfn wit ?_
  intro W base args ds gs before hval hW _ _ _
  have hW' := hW
  obtain ⟨p, q, hA, hV, rfl, _, _⟩ := hW
  have hA : DataW.TrodAll enc Go.Proofs.Try.prog W 0 (fun _ => true) true fn.params.toList args.toList ds p := hA
  rw [hvars] at hV
  obtain ⟨rfl, rfl⟩ := trodVars_none hV
  obtain ⟨dss, h1, h2, h3⟩ := args_read (r := .any) (base := base) hplain (fun j t v ht hv => hval j t v (by rw [← Array.getElem?_toList]; exact ht) (by rw [← Array.getElem?_toList]; exact hv)) hA
  obtain ⟨_, hrun⟩ := hok dss h1
  have hrun := hrun W (fun _ => False) args (fun k h => h.elim) (by rw [h2, Array.length_toList]) fun j av hj => by
    have := h3 j av hj
    simpa [List.getD, Array.getD_eq_getD_getElem?, Array.getElem?_toList] using this
  refine hrun.mono fun e W' hq => ?_
  obtain ⟨v, rfl, hb, hr⟩ := hq
  have hv : v = .bool true := by
    have : Rp W' _ v (.sc (.bool true)) := hr
    cases this; rfl
  subst hv
  simp only [List.append_nil] at hW'
  obtain ⟨hs1, hs2, hs3⟩ := hspec ds (trodAll_len hA).2
  refine ⟨_, rfl, ds, [], p, [], p, [], hW', ?_, ?_, ?_, ?_, fun h => by cases h⟩
  · rw [List.append_nil, hs1, hres]
    exact trodAll_cons_mk (shut_bool htb _) trodAll_mk0
  · rw [List.append_nil, hs2]
    exact args_stay hl hb hread hA fun x hx => by simpa using hW'.lt x hx
  · rw [List.append_nil, hs3, hvars]; rfl
  · exact hb.frame _

end Go.Vx
end
