import Derived.Test.YmwhatStrs
set_option linter.unusedVariables false
set_option linter.unusedSimpArgs false
namespace Go.Proofs.Ymwhat
open Go.RowKit

theorem Yatv.info9 : (Yatv.prog.info? 9).map (fun i => (i.zero, i.size, i.bytes)) = some (some (.string ByteArray.empty), 1, 16) := by kernel_rfl

/-- Nothing old has turned, and v lies in new memory. -/
def Own (B : Nat) (v : Value) : Prop := ∀ g, v.ownBlock = some g → B ≤ g

theorem SR.empty (w : World) : SR (w.alloc (.cells #[] 9)) (.slice (some ⟨w.heap.size, 0, none⟩) 0 0) [] :=
  .inr ⟨w.heap.size, 0, #[], rfl, heap_alloc_new w _, Nat.le_refl _, Nat.zero_le _, rfl, fun i hi => absurd hi (Nat.not_lt_zero _)⟩

/-- One string more. -/
theorem SR.snoc_cell (S : List (List UInt8)) (x : List UInt8) (j : Nat) (hj : j < S.length) : (S ++ [x]).getD j [] = S.getD j [] := by
  simp [List.getD, List.getElem?_append_left hj]

theorem SR.snoc_last (S : List (List UInt8)) (x : List UInt8) : (S ++ [x]).getD S.length [] = x := by
  simp [List.getD]

theorem wpList_append_str {P : Program} {w : World} {ops : Array Oper} {rest : List Oper} {o : Oper} {a : Act} {Q : Exit → Act → World → Prop} (hgd : o.guard = none) (s x : Operand)
    (ho : o.op = .call { callee := .builtin .append, args := #[s, x], argTypes := #[31, 31] })
    (ht : P.underlying 31 = some (.slice 9)) (hi : (P.info? 9).map (fun i => (i.zero, i.size, i.bytes)) = some (some (.string ByteArray.empty), 1, 16))
    (v : Value) (S : List (List UInt8)) (hs : a.eval s = v) (hown : SR w v S) (H : Nat) (t : List UInt8) (hx : a.eval x = .slice (some ⟨H, 0, none⟩) 1 1) (hH : w.heap[H]? = some (.cells #[.string (bs t)] 9 (0, 0))) (hn : S.length + 1 ≤ 1000000000)
    (h : ∀ v' w', SR w' v' (S ++ [t]) → Kept (fun b => v.ownBlock = some b) w w' → (∀ g, v'.ownBlock = some g → v.ownBlock = some g ∨ w.heap.size ≤ g) → wpList P ops Q rest (a.put o.dst v') w') : wpList P ops Q (o :: rest) a w := by
  refine wpList_append_row hgd s x 31 ho 9 (.string ByteArray.empty) 1 16 ht hi rfl (by decide) v S.length _ hs hown ⟨H, 0, none⟩ 1 1 hx (fun i => .string (bs ((S ++ [t]).getD i []))) ?_ (fun j => rfl) ?_ (by decide) (by unfold maxLen; omega) (by omega) ?_
  · intro j hj
    obtain rfl : j = 0 := by omega
    have hadd : (⟨H, 0, none⟩ : Addr).add 0 = ⟨H, 0, none⟩ := by unfold Addr.add; split <;> simp_all
    rw [hadd, cell_of_row _ _ _ _ _ _ hH, Nat.add_zero, Nat.mul_one, SR.snoc_last]
    rfl
  · intro i hi
    rw [SR.snoc_cell S t i (by omega)]
  · intro g cap w' hr hk hat
    refine h _ w' ?_ hk (fun g' hg' => ?_)
    · unfold SR
      rw [List.length_append, List.length_singleton]
      exact hr
    · have : g' = g := by simpa [own_slice] using hg'.symm
      subst this
      exact hat

theorem filter_take_succ (p : List UInt8 → Bool) (S : List (List UInt8)) (k : Nat) (hk : k < S.length) : (S.take (k + 1)).filter p = (S.take k).filter p ++ if p S[k] then [S[k]] else [] := by
  rw [List.take_succ_eq_append_getElem hk, List.filter_append]
  by_cases h : p S[k] <;> simp [h]

/-- What holds at the head of the loop. -/
def Drop13Rel (w : World) (S : List (List UInt8)) (q : List UInt8) (k : Nat) (v : Value) (wr : World) : Prop :=
  SR wr v ((S.take k).filter (fun x => x != q)) ∧ Below w.heap.size w wr ∧ Own w.heap.size v

set_option maxHeartbeats 800000 in
theorem drop13 {w : World} {v : Value} {S : List (List UInt8)} (h : SR w v S) (hn : S.length ≤ 10000000) (q : ByteArray) :
    Calls Yatv.prog 13 #[v, .string q] w fun e w' => ∃ v', e = .returned v' ∧ SR w' v' (S.filter (fun x => x != q.data.toList)) ∧ Below w.heap.size w w' ∧ Own w.heap.size v' := by
  obtain ⟨ao, cap, rfl, hao⟩ := h.form
  have HH := hid h
  have HAO := hid hao
  clear h hao
  go_enter Yatv.func13, Yatv.ntmps13
  go_wp2
  go_loopw [5, 6] (fun out i wr => ∃ k : Nat, i = .int .i64 k ∧ k ≤ S.length ∧ Drop13Rel w S q.data.toList k out wr) (fun _ i _ => S.length - (intOf i).toNat)
  case atStart => exact ⟨0, rfl, Nat.zero_le _, SR.empty w, (Below.refl _ _).alloc (Nat.le_refl _) _, fun g hg => by simp [own_slice] at hg; omega⟩
  case round =>
    obtain ⟨k, rfl, hk, hsr, hbel, hown⟩ := hrel
    obtain ⟨ao', cap', hu, _⟩ := hsr.form
    rw [hu] at hsr hown ⊢
    clear hu
    have hfl : ((S.take k).filter (fun x => x != q.data.toList)).length ≤ k := Nat.le_trans (List.length_filter_le _ _) (by simp; omega)
    have HS := hid hsr
    have HB := hid hbel
    have HO := hid hown
    clear hsr hbel hown
    by_cases hlt : k < S.length
    · obtain ⟨g, rfl⟩ := HAO.out (by omega)
      obtain ⟨x, hx0, ex⟩ := HH.out.cell k hlt
      have hgl : g < w.heap.size := World.block_lt_of_cell? _ _ hx0
      have hx : wr.cell? ⟨g, k, none⟩ = some (.string x) := (HB.out.cell (p := ⟨g, k, none⟩) hgl).trans hx0
      have EX := hid ex
      clear ex hx0
      by_cases he : S[k] = q.data.toList
      · have hq : (x.toList == q.toList) = true := by rw [beq_str, EX.out]; simp [he]
        have HE := hid he
        clear he
        go_wp2
        go_roundw
        case rel =>
          refine ⟨k + 1, by go_num, by omega, ?_, HB.out, HO.out⟩
          rw [filter_take_succ _ _ _ hlt, HE.out]
          simpa using HS.out
        case measure => simp [intOf]; omega
      · have hq : (x.toList == q.toList) = false := by rw [beq_str, EX.out]; simp [he]
        have HE := hid he
        clear he
        have hx1 : ∀ o, (wr.alloc o).cell? ⟨g, k, none⟩ = some (.string x) := fun o => by rw [World.cell?_alloc_lt _ _ _ (by have := HB.out.size; show g < _; omega)]; exact hx
        go_wp2_with (at_builtin; refine wpList_append_str rfl (.tmp 20) (.tmp 25) rfl Yatv.underlying31 Yatv.info9 _ _ rfl (Row.alloc HS.out _) wr.heap.size x.data.toList rfl ?hH (by omega) ?_)
        case hH => rw [heap_alloc_new, bs_of]
        intro v' w1 hsr1 hk1 hat1
        have hR : Drop13Rel w S q.data.toList (k + 1) v' w1 := by
          refine ⟨?_, ?_, ?_⟩
          · rw [filter_take_succ _ _ _ hlt]
            have : (S[k] != q.data.toList) = true := by simp [HE.out]
            rw [if_pos this, ← EX.out]
            exact hsr1
          · exact HB.out.trans ((Below.refl _ _).alloc HB.out.size _ |>.trans (hk1.below (by simp; have := HB.out.size; omega) (fun b hb e => by have := HO.out b e; omega)))
          · intro g' hg'
            rcases hat1 g' hg' with e | e
            · exact HO.out g' e
            · have := HB.out.size; omega
        have HR := hid hR
        clear hsr1 hk1 hat1 hR
        go_wp2
        go_roundw
        case rel => exact ⟨k + 1, by go_num, by omega, HR.out⟩
        case measure => simp [intOf]; omega
    · go_wp2
      go_ret
      refine ⟨_, rfl, ?_, HB.out, HO.out⟩
      have e : S = S.take k := (List.take_of_length_le (by omega)).symm
      have e2 : S.filter (fun x => x != q.data.toList) = (S.take k).filter (fun x => x != q.data.toList) := by rw [← e]
      rw [e2]
      exact HS.out

/-- What holds at the head of the loop. -/
def Drop31Rel (w : World) (S : List (List UInt8)) (q : List UInt8) (k : Nat) (v : Value) (wr : World) : Prop :=
  SR wr v ((S.take k).filter (fun x => x != q)) ∧ Below w.heap.size w wr ∧ Own w.heap.size v

set_option maxHeartbeats 800000 in
theorem drop31 {w : World} {v : Value} {S : List (List UInt8)} (h : SR w v S) (hn : S.length ≤ 10000000) (q : ByteArray) :
    Calls Yatv.prog 31 #[v, .string q] w fun e w' => ∃ v', e = .returned v' ∧ SR w' v' (S.filter (fun x => x != q.data.toList)) ∧ Below w.heap.size w w' ∧ Own w.heap.size v' := by
  obtain ⟨ao, cap, rfl, hao⟩ := h.form
  have HH := hid h
  have HAO := hid hao
  clear h hao
  go_enter Yatv.func31, Yatv.ntmps31
  go_wp2
  go_loopw [5, 6] (fun out i wr => ∃ k : Nat, i = .int .i64 k ∧ k ≤ S.length ∧ Drop31Rel w S q.data.toList k out wr) (fun _ i _ => S.length - (intOf i).toNat)
  case atStart => exact ⟨0, rfl, Nat.zero_le _, SR.empty w, (Below.refl _ _).alloc (Nat.le_refl _) _, fun g hg => by simp [own_slice] at hg; omega⟩
  case round =>
    obtain ⟨k, rfl, hk, hsr, hbel, hown⟩ := hrel
    obtain ⟨ao', cap', hu, _⟩ := hsr.form
    rw [hu] at hsr hown ⊢
    clear hu
    have hfl : ((S.take k).filter (fun x => x != q.data.toList)).length ≤ k := Nat.le_trans (List.length_filter_le _ _) (by simp; omega)
    have HS := hid hsr
    have HB := hid hbel
    have HO := hid hown
    clear hsr hbel hown
    by_cases hlt : k < S.length
    · obtain ⟨g, rfl⟩ := HAO.out (by omega)
      obtain ⟨x, hx0, ex⟩ := HH.out.cell k hlt
      have hgl : g < w.heap.size := World.block_lt_of_cell? _ _ hx0
      have hx : wr.cell? ⟨g, k, none⟩ = some (.string x) := (HB.out.cell (p := ⟨g, k, none⟩) hgl).trans hx0
      have EX := hid ex
      clear ex hx0
      by_cases he : S[k] = q.data.toList
      · have hq : (x.toList == q.toList) = true := by rw [beq_str, EX.out]; simp [he]
        have HE := hid he
        clear he
        go_wp2
        go_roundw
        case rel =>
          refine ⟨k + 1, by go_num, by omega, ?_, HB.out, HO.out⟩
          rw [filter_take_succ _ _ _ hlt, HE.out]
          simpa using HS.out
        case measure => simp [intOf]; omega
      · have hq : (x.toList == q.toList) = false := by rw [beq_str, EX.out]; simp [he]
        have HE := hid he
        clear he
        have hx1 : ∀ o, (wr.alloc o).cell? ⟨g, k, none⟩ = some (.string x) := fun o => by rw [World.cell?_alloc_lt _ _ _ (by have := HB.out.size; show g < _; omega)]; exact hx
        go_wp2_with (at_builtin; refine wpList_append_str rfl (.tmp 20) (.tmp 25) rfl Yatv.underlying31 Yatv.info9 _ _ rfl (Row.alloc HS.out _) wr.heap.size x.data.toList rfl ?hH (by omega) ?_)
        case hH => rw [heap_alloc_new, bs_of]
        intro v' w1 hsr1 hk1 hat1
        have hR : Drop31Rel w S q.data.toList (k + 1) v' w1 := by
          refine ⟨?_, ?_, ?_⟩
          · rw [filter_take_succ _ _ _ hlt]
            have : (S[k] != q.data.toList) = true := by simp [HE.out]
            rw [if_pos this, ← EX.out]
            exact hsr1
          · exact HB.out.trans ((Below.refl _ _).alloc HB.out.size _ |>.trans (hk1.below (by simp; have := HB.out.size; omega) (fun b hb e => by have := HO.out b e; omega)))
          · intro g' hg'
            rcases hat1 g' hg' with e | e
            · exact HO.out g' e
            · have := HB.out.size; omega
        have HR := hid hR
        clear hsr1 hk1 hat1 hR
        go_wp2
        go_roundw
        case rel => exact ⟨k + 1, by go_num, by omega, HR.out⟩
        case measure => simp [intOf]; omega
    · go_wp2
      go_ret
      refine ⟨_, rfl, ?_, HB.out, HO.out⟩
      have e : S = S.take k := (List.take_of_length_le (by omega)).symm
      have e2 : S.filter (fun x => x != q.data.toList) = (S.take k).filter (fun x => x != q.data.toList) := by rw [← e]
      rw [e2]
      exact HS.out

end Go.Proofs.Ymwhat
