import Derived.Test.YmwhatQadH
import Derived.Test.YmwhatQacT
set_option linter.unusedVariables false
set_option linter.unusedSimpArgs false
namespace Go.Proofs.Ymwhat
open Go.RowKit

set_option maxHeartbeats 1000000 in
set_option maxRecDepth 100000 in
theorem delete26 {w : World} {g cap j : Nat} {M : List (List UInt8)} (h : SR w (.slice (some ⟨g, 0, none⟩) M.length cap) M) (hj : j < M.length) (hn : M.length ≤ 1000000000) :
    Calls Yatv.prog 26 #[.slice (some ⟨g, 0, none⟩) M.length cap, .int .i64 j, .int .i64 ((j : Int) + 1)] w fun e w' => e = .returned (.slice (some ⟨g, 0, none⟩) (j + (M.length - (j + 1))) cap) ∧ SR w' (.slice (some ⟨g, 0, none⟩) (j + (M.length - (j + 1))) cap) (M.eraseIdx j) ∧ Kept (fun b => b = g) w w' := by
  obtain ⟨i9, hi9, hz90, hz91, hz92⟩ := info_parts Yatv.info9
  have hcm := h.cap
  obtain ⟨A, hA, hnews, s1, s2, s3⟩ := del_ready h hj hcm.1
  have HH := hid h
  clear h
  have hic : j ≤ cap := by omega
  have hwr : IntKind.i64.wrap ((j : Int) + 1) = (j : Int) + 1 := by rw [IntKind.wrap_i64]; omega
  have hp0 : (0 : Int) ≤ (j : Int) + 1 := by omega
  have hp1 : (j : Int) + 1 ≤ (M.length : Int) := by omega
  have hp2 : ((j : Int) + 1).toNat = j + 1 := by omega
  have hp3 : j + (M.length - (j + 1)) ≤ cap := by omega
  have hp4 : (0 : Int) ≤ (j : Int) := by omega
  have hp5 : (j : Int) ≤ (cap : Int) := by omega
  have hne : ((j : Int) == (j : Int) + 1) = false := by rw [beq_eq_false_iff_ne]; omega
  have hv : ∀ w, (zeroValue 9).run Yatv.prog w = .ok (.string ByteArray.empty) w := fun w => by simp [zeroValue, typeInfo, hi9, hz90]
  have hSR := SR.delete (w := w.drew) HH.out hj
  have hAll := Row.setCells (movedS M j) (w := w.drew) HH.out j
  have hclr := Lib.run_clear_slice (P := Yatv.prog) (w.drew.setCells g j (movedS M j)) 31 9 0 (.string ByteArray.empty) Yatv.underlying31 hv rfl rfl g (j + (M.length - (j + 1))) (M.length - (j + (M.length - (j + 1)))) (cap - (j + (M.length - (j + 1)))) (by omega)
    (fun i hi => by rw [hAll.cell (i := j + (M.length - (j + 1)) + i) (by omega)]; rfl) (fun i hi => hAll.frozen _)
  have HR : Hid (SR ((w.drew.setCells g j (movedS M j)).setCells g (j + (M.length - (j + 1))) (List.replicate (M.length - (j + (M.length - (j + 1)))) (.string ByteArray.empty))) (.slice (some ⟨g, 0, none⟩) (j + (M.length - (j + 1))) cap) (M.eraseIdx j)) := by
    have hl : (M.eraseIdx j).length = j + (M.length - (j + 1)) := by rw [List.length_eraseIdx, if_pos hj]; omega
    refine (Row.setCells _ hSR _).congr (fun i hi => ?_)
    rw [hl] at hi
    rw [if_neg (by omega)]
  have HK : Hid (Kept (fun b => b = g) w ((w.drew.setCells g j (movedS M j)).setCells g (j + (M.length - (j + 1))) (List.replicate (M.length - (j + (M.length - (j + 1)))) (.string ByteArray.empty)))) :=
    hid (Kept.setCells (F := fun b => b = g) rfl _ (Kept.setCells (F := fun b => b = g) rfl _ ((Kept.refl _ _).drew) _) _)
  clear hSR hAll hv
  go_enter Yatv.func26, Yatv.ntmps26
  go_wp2_with fail
  go_region_law (refine step_append_room rfl (.tmp 22) (.tmp 25) 31 rfl 9 i9 1 Yatv.underlying31 hi9 hz91 g 0 j cap (by simp [Act.eval, Act.put]) A (M.length - (j + 1)) (cap - (j + 1)) (movedS M j) (by simp [Act.eval, Act.put]) s1.out hnews.out s2.out hp3 s3.out ?_)
  go_wp2
  go_ret
  exact ⟨rfl, HR.out, HK.out⟩

/-- The model's deletion by slices.Delete, as a step of the law's state. -/
theorem St.delete26 {w0 wr w' : World} {tb g cap j : Nat} {ps S M : List (List UInt8)} (h : St w0 wr tb (.slice (some ⟨g, 0, none⟩) M.length cap) ps S M) (hr : SR w' (.slice (some ⟨g, 0, none⟩) (j + (M.length - (j + 1))) cap) (M.eraseIdx j)) (hk : Kept (fun b => b = g) wr w') :
    St w0 w' tb (.slice (some ⟨g, 0, none⟩) (j + (M.length - (j + 1))) cap) ps S (M.eraseIdx j) :=
  h.model (hk.mono (fun x _ e => by rw [own_slice, e])) hr (fun x hx => .inl hx)

theorem St.insertBad {w0 wr : World} {tb : Nat} {v : Value} {ps S M : List (List UInt8)} (h : St w0 wr tb v ps S M) (s : ByteArray) (hs : s.size ≤ 1000000000) (hv : validB s.data.toList = false) :
    Calls Yatv.prog 14 #[.pointer (some ⟨tb,0,none⟩), .string s] wr fun e w' => e = .returned (.int .i64 2) ∧ w' = wr := insert_bad _ s wr hs hv

theorem cnt_take_succ {M : List (List UInt8)} {k : Nat} (hk : k < M.length) (p x : List UInt8) (hx : x = M[k]) : cnt (M.take (k + 1)) p = cnt (M.take k) p + if preB p x then 1 else 0 := by
  subst hx
  unfold cnt preB
  rw [List.take_succ_eq_append_getElem hk, List.countP_append, List.countP_singleton]

end Go.Proofs.Ymwhat
