import Derived.Test.YmwhatDrop
import Derived.ChangeKeysEq
import Derived.Laws.StructEq
set_option linter.unusedVariables false
set_option linter.unusedSimpArgs false
namespace Go.Proofs.Ymwhat
open Go.RowKit

/-- A [26]int as a value. -/
def agg26 (f : Nat → Int) : Value := .agg ((List.range 26).map fun j => Value.int .i64 (f j)).toArray

theorem add_plain' (g o j : Nat) : (⟨g, o, none⟩ : Addr).add j = ⟨g, o + j, none⟩ := by unfold Addr.add; split <;> simp_all

theorem run_load26 (w : World) (g off : Nat) (f : Nat → Int) (h : ∀ j, j < 26 → w.cell? ⟨g, off + j, none⟩ = some (.int .i64 (f j))) :
    (Instr.loadAt 38 (.pointer (some ⟨g, off, none⟩))).run Yatv.prog w = .ok (agg26 f) w := by
  have hl := run_loadCells_list (P := Yatv.prog) w ⟨g, off, none⟩ ((List.range 26).map fun j => Value.int .i64 (f j)) (fun j v hj => by
    rw [List.getElem?_map] at hj
    by_cases hlt : j < 26
    · rw [List.getElem?_range hlt] at hj
      simp at hj
      rw [add_plain', h j hlt, hj]
    · rw [List.getElem?_eq_none (by simpa using hlt)] at hj
      simp at hj)
  rw [List.length_map, List.length_range] at hl
  obtain ⟨i, hi, _, hs, _⟩ := info_parts Yatv.info38
  have hagg : (isAgg 38).run Yatv.prog w = .ok true w := by
    unfold isAgg
    rw [Sem.run_bind, run_underlying Yatv.underlying38 w]
    simp
  simp only [Instr.loadAt, Instr.sureAddr, Sem.run_bind, Sem.run_pure, Result.andThen_ok]
  simp [loadVar, Sem.run_bind, hagg, sizeOf, typeInfo, hi, hs, hl, agg26]

theorem Yatv.cells3 : Yatv.prog.cellsOf 3 = 1 := by kernel_rfl

theorem run_items26 (w : World) (d : Nat) (f : Nat → Int) : ∀ (is : List Nat), (∀ i ∈ is, i < 26) → (Op.eqItems (d + 1) 3 1 ((List.range 26).map fun j => Value.int .i64 (f j)).toArray ((List.range 26).map fun j => Value.int .i64 (f j)).toArray is).run Yatv.prog w = .ok true w
  | [], _ => by simp [Op.eqItems]
  | i :: is, h => by
    have hi := h i (by simp)
    have hp : (part 3 ((List.range 26).map fun j => Value.int .i64 (f j)).toArray (i * 1)).run Yatv.prog w = .ok (.int .i64 (f i)) w := by
      have hagg : (isAgg 3).run Yatv.prog w = .ok false w := by
        unfold isAgg
        rw [Sem.run_bind, run_underlying Yatv.underlying3 w]
        simp
      have hg : ((List.range 26).map fun j => Value.int .i64 (f j)).toArray[i * 1]? = some (.int .i64 (f i)) := by
        rw [Nat.mul_one]
        simp only [List.getElem?_toArray, List.getElem?_map, List.getElem?_range hi]
        rfl
      simp only [part, Sem.run_bind, hagg, Result.andThen_ok, Bool.false_eq_true, if_false, hg]
      simp
    have he : (Op.equalIn (d + 1) 3 (.int .i64 (f i)) (.int .i64 (f i))).run Yatv.prog w = .ok true w := by
      rw [run_equalIn_int w d 3 .i64 .i64 _ _ Yatv.underlying3]
      simp
    simp only [Op.eqItems, Sem.run_bind, hp, he, Result.andThen_ok, Bool.not_true, Bool.false_eq_true, if_false]
    exact run_items26 w d f is (fun j hj => h j (by simp [hj]))

theorem run_neq26 (w : World) (f : Nat → Int) : (binOp .neq 38 (agg26 f) (agg26 f)).run Yatv.prog w = .ok (.bool false) w := by
  obtain ⟨i, hi, _, hs, _⟩ := info_parts Yatv.info3
  unfold agg26
  rw [run_neq_struct, show (10000 : Nat) = 9999 + 1 from rfl, run_equalIn_array w 9999 _ _ Yatv.underlying38 hi, Yatv.cells3, show (9999 : Nat) = 9998 + 1 from rfl,
    run_items26 w 9998 f (List.range 26) (fun j hj => by simpa using hj)]
  rfl

theorem Yatv.eqGuard38 : Yatv.prog.eqGuardType Yatv.prog.depth 38 = false := by kernel_rfl

theorem run_eqGuard26 (w : World) (x y : Operand) (f g : Nat → Int) : (eqGuard .neq 38 x y (agg26 f) (agg26 g)).run Yatv.prog w = .ok () w := by
  unfold agg26
  exact run_eqGuard_agg w .neq 38 x y _ _ Yatv.eqGuard38

section
variable {w : World} {ops : Array Oper} {Q : Act → Prop} {a : Act} {o : Oper} {rest : List Oper}

theorem wpQuiet_load26 (hgd : o.guard = none) (x : Operand) (ho : o.op = .load 38 x) (g off : Nat) (f : Nat → Int) (hx : a.eval x = .pointer (some ⟨g, off, none⟩)) (hc : ∀ j, j < 26 → w.cell? ⟨g, off + j, none⟩ = some (.int .i64 (f j)))
    (h : wpQuiet Yatv.prog ops (fun w' => ∃ n, w' = w.drewN n) Q rest (a.put o.dst (agg26 f))) : wpQuiet Yatv.prog ops (fun w' => ∃ n, w' = w.drewN n) Q (o :: rest) a := by
  refine BigFrame.wpQuiet_want (by simp [Region.wanted, hgd]) (fun K hK => ⟨agg26 f, ?_, hK _ h⟩)
  rintro w' ⟨n, rfl⟩
  unfold Oper.quietAt execOp
  simp only [ho, hx, Sem.run_bind, run_load26 (w.drewN n) g off f hc, Result.andThen_ok]
  exact ⟨rfl, rfl⟩

theorem wpQuiet_neq26 (hgd : o.guard = none) (x y : Operand) (ho : o.op = .binOp .neq 38 x y 38) (f : Nat → Int) (hx : a.eval x = agg26 f) (hy : a.eval y = agg26 f)
    (h : wpQuiet Yatv.prog ops (fun w' => ∃ n, w' = w.drewN n) Q rest (a.put o.dst (.bool false))) : wpQuiet Yatv.prog ops (fun w' => ∃ n, w' = w.drewN n) Q (o :: rest) a := by
  refine BigFrame.wpQuiet_want (by simp [Region.wanted, hgd]) (fun K hK => ⟨.bool false, ?_, hK _ h⟩)
  rintro w' ⟨n, rfl⟩
  unfold Oper.quietAt execOp
  simp only [ho, hx, hy, Sem.run_bind, run_eqGuard26, run_neq26, Result.andThen_ok]
  exact ⟨rfl, rfl⟩
end

end Go.Proofs.Ymwhat
