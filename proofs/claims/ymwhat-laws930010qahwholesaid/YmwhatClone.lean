import Derived.Test.YmwhatEq
set_option linter.unusedVariables false
set_option linter.unusedSimpArgs false
namespace Go.Proofs.Ymwhat
open Go.RowKit

theorem news_row {w : World} {e : TypeId} {size g n m cap : Nat} {f : Nat → Value} (h : Row w e size (.slice (some ⟨g, 0, none⟩) m cap) n f) : ∀ j u, ((List.range (n * size)).map f)[j]? = some u → w.cell? ((⟨g, 0, none⟩ : Addr).add j) = some u := by
  intro j u hu
  rw [List.getElem?_map] at hu
  by_cases hj : j < n * size
  · rw [List.getElem?_range hj] at hu
    simp at hu
    rw [add_plain', Nat.zero_add, h.cell hj, hu]
  · rw [List.getElem?_eq_none (by simp; omega)] at hu
    simp at hu

theorem owns_empty (w : World) (e : TypeId) (size : Nat) : (w.alloc (.cells #[] e)).ownsRow w.heap.size e size (.slice (some ⟨w.heap.size, 0, none⟩) 0 0) 0 [] :=
  ⟨by simp, .inr ⟨w.heap.size, 0, #[], rfl, Nat.le_refl _, heap_alloc_new w _, Nat.le_refl _, Nat.zero_le _, by simp, by simp⟩⟩

theorem Own.of_owns {w : World} {base : Nat} {e : TypeId} {size : Nat} {v : Value} {n : Nat} {xs : List Value} (h : w.ownsRow base e size v n xs) : Own base v := fun g hg => (h.lt g hg).1

set_option maxHeartbeats 800000 in
theorem clone17 {w : World} {v : Value} {n : Nat} {f : Nat → Value} (h : Row w 4 1 v n f) (h1 : ∀ i, (f i).oneCell' = true) (hn : n ≤ 100000000) :
    Calls Yatv.prog 17 #[v] w fun e w' => ∃ v', e = .returned v' ∧ Row w' 4 1 v' n f ∧ Below w.heap.size w w' ∧ Own w.heap.size v' := by
  rcases h with ⟨rfl, rfl⟩ | ⟨g, cap, cur, rfl, r⟩
  · have hq := fun w => Lib.run_eql_slice_nil (P := Yatv.prog) w 27 4 none 0 0 0 0 Yatv.underlying27
    go_enter Yatv.func17, Yatv.ntmps17
    go_wp2
    go_ret
    exact ⟨_, rfl, Row.nil _ _ _ _, Below.refl _ _, fun g hg => by simp [Value.ownBlock] at hg⟩
  · have h : Row w 4 1 (.slice (some ⟨g, 0, none⟩) n cap) n f := .inr ⟨g, cap, cur, rfl, r⟩
    clear r
    have hq := fun w => Lib.run_eql_slice_nil (P := Yatv.prog) w 27 4 (some ⟨g, 0, none⟩) n cap 0 0 Yatv.underlying27
    obtain ⟨i, hi0, hz0, hz1, hz2⟩ := info_parts Yatv.info4
    have HH := hid h
    have H1 := hid h1
    clear h h1
    go_enter Yatv.func17, Yatv.ntmps17
    go_wp2_with (at_builtin; refine wpList_append_own _ rfl (.tmp 5) (.tmp 6) 27 rfl w.heap.size 4 i _ 1 1 Yatv.underlying27 hi0 hz0 hz1 hz2 rfl (by decide) _ 0 [] rfl (owns_empty w 4 1) ⟨g, 0, none⟩ n cap _ rfl ?hl (news_row (HH.out.alloc _)) ?h1 ?h63 ?hby (by simp) ?_)
    case hl => simp
    case h1 =>
      intro u hu
      obtain ⟨j, _, rfl⟩ := List.mem_map.1 hu
      exact H1.out j
    case h63 => unfold maxLen; omega
    case hby => omega
    intro v' w1 hown hgrow _
    have hB : Below w.heap.size w w1 := ((Below.refl _ _).alloc (Nat.le_refl _) _).grown hgrow (by simp) (fun k hk => by simp [own_slice] at hk; omega)
    have HB := hid hB
    have HO := hid hown
    clear hB hown hgrow
    have HR : Hid (Row w1 4 1 v' n f) := by
      exact Row.of_owns HO.out (fun i hi => by rw [List.getElem?_map, List.getElem?_range (by omega)]; rfl)
    go_wp2
    go_ret
    exact ⟨_, rfl, HR.out, HB.out, Own.of_owns HO.out⟩

set_option maxHeartbeats 800000 in
theorem clone18 {w : World} {v : Value} {n : Nat} {f : Nat → Value} (h : Row w 3 1 v n f) (h1 : ∀ i, (f i).oneCell' = true) (hn : n ≤ 100000000) :
    Calls Yatv.prog 18 #[v] w fun e w' => ∃ v', e = .returned v' ∧ Row w' 3 1 v' n f ∧ Below w.heap.size w w' ∧ Own w.heap.size v' := by
  rcases h with ⟨rfl, rfl⟩ | ⟨g, cap, cur, rfl, r⟩
  · have hq := fun w => Lib.run_eql_slice_nil (P := Yatv.prog) w 28 3 none 0 0 0 0 Yatv.underlying28
    go_enter Yatv.func18, Yatv.ntmps18
    go_wp2
    go_ret
    exact ⟨_, rfl, Row.nil _ _ _ _, Below.refl _ _, fun g hg => by simp [Value.ownBlock] at hg⟩
  · have h : Row w 3 1 (.slice (some ⟨g, 0, none⟩) n cap) n f := .inr ⟨g, cap, cur, rfl, r⟩
    clear r
    have hq := fun w => Lib.run_eql_slice_nil (P := Yatv.prog) w 28 3 (some ⟨g, 0, none⟩) n cap 0 0 Yatv.underlying28
    obtain ⟨i, hi0, hz0, hz1, hz2⟩ := info_parts Yatv.info3
    have HH := hid h
    have H1 := hid h1
    clear h h1
    go_enter Yatv.func18, Yatv.ntmps18
    go_wp2_with (at_builtin; refine wpList_append_own _ rfl (.tmp 5) (.tmp 6) 28 rfl w.heap.size 3 i _ 1 8 Yatv.underlying28 hi0 hz0 hz1 hz2 rfl (by decide) _ 0 [] rfl (owns_empty w 3 1) ⟨g, 0, none⟩ n cap _ rfl ?hl (news_row (HH.out.alloc _)) ?h1 ?h63 ?hby (by simp) ?_)
    case hl => simp
    case h1 =>
      intro u hu
      obtain ⟨j, _, rfl⟩ := List.mem_map.1 hu
      exact H1.out j
    case h63 => unfold maxLen; omega
    case hby => omega
    intro v' w1 hown hgrow _
    have hB : Below w.heap.size w w1 := ((Below.refl _ _).alloc (Nat.le_refl _) _).grown hgrow (by simp) (fun k hk => by simp [own_slice] at hk; omega)
    have HB := hid hB
    have HO := hid hown
    clear hB hown hgrow
    have HR : Hid (Row w1 3 1 v' n f) := by
      exact Row.of_owns HO.out (fun i hi => by rw [List.getElem?_map, List.getElem?_range (by omega)]; rfl)
    go_wp2
    go_ret
    exact ⟨_, rfl, HR.out, HB.out, Own.of_owns HO.out⟩

set_option maxHeartbeats 800000 in
theorem clone16 {w : World} {v : Value} {n : Nat} {f : Nat → Value} (h : Row w 38 26 v n f) (h1 : ∀ i, (f i).oneCell' = true) (hn : n ≤ 100000000) :
    Calls Yatv.prog 16 #[v] w fun e w' => ∃ v', e = .returned v' ∧ Row w' 38 26 v' n f ∧ Below w.heap.size w w' ∧ Own w.heap.size v' := by
  rcases h with ⟨rfl, rfl⟩ | ⟨g, cap, cur, rfl, r⟩
  · have hq := fun w => Lib.run_eql_slice_nil (P := Yatv.prog) w 26 38 none 0 0 0 0 Yatv.underlying26
    go_enter Yatv.func16, Yatv.ntmps16
    go_wp2
    go_ret
    exact ⟨_, rfl, Row.nil _ _ _ _, Below.refl _ _, fun g hg => by simp [Value.ownBlock] at hg⟩
  · have h : Row w 38 26 (.slice (some ⟨g, 0, none⟩) n cap) n f := .inr ⟨g, cap, cur, rfl, r⟩
    clear r
    have hq := fun w => Lib.run_eql_slice_nil (P := Yatv.prog) w 26 38 (some ⟨g, 0, none⟩) n cap 0 0 Yatv.underlying26
    obtain ⟨i, hi0, hz0, hz1, hz2⟩ := info_parts Yatv.info38
    have HH := hid h
    have H1 := hid h1
    clear h h1
    go_enter Yatv.func16, Yatv.ntmps16
    go_wp2_with (at_builtin; refine wpList_append_own _ rfl (.tmp 5) (.tmp 6) 26 rfl w.heap.size 38 i _ 26 208 Yatv.underlying26 hi0 hz0 hz1 hz2 (by simp [Value.cells]) (by decide) _ 0 [] rfl (owns_empty w 38 26) ⟨g, 0, none⟩ n cap _ rfl ?hl (news_row (HH.out.alloc _)) ?h1 ?h63 ?hby (by simp) ?_)
    case hl => simp
    case h1 =>
      intro u hu
      obtain ⟨j, _, rfl⟩ := List.mem_map.1 hu
      exact H1.out j
    case h63 => unfold maxLen; omega
    case hby => omega
    intro v' w1 hown hgrow _
    have hB : Below w.heap.size w w1 := ((Below.refl _ _).alloc (Nat.le_refl _) _).grown hgrow (by simp) (fun k hk => by simp [own_slice] at hk; omega)
    have HB := hid hB
    have HO := hid hown
    clear hB hown hgrow
    have HR : Hid (Row w1 38 26 v' n f) := by
      exact Row.of_owns HO.out (fun i hi => by rw [List.getElem?_map, List.getElem?_range (by omega)]; rfl)
    go_wp2
    go_ret
    exact ⟨_, rfl, HR.out, HB.out, Own.of_owns HO.out⟩

end Go.Proofs.Ymwhat
