import Derived.Test.YmwhatArr
set_option linter.unusedVariables false
set_option linter.unusedSimpArgs false
namespace Go.Proofs.Ymwhat
open Go.RowKit

set_option maxHeartbeats 800000 in
theorem equal21 {w : World} {v v' : Value} {n : Nat} {f : Nat → Bool} (h : Row w 4 1 v n (fun i => .bool (f i))) (h' : Row w 4 1 v' n (fun i => .bool (f i))) (hn : n ≤ 1000000000) :
    Calls Yatv.prog 21 #[v, v'] w fun e w' => e = .returned (.bool true) ∧ ∃ m, w' = w.drewN m := by
  obtain ⟨ao, cap, rfl, hao, _⟩ := h.form
  obtain ⟨ao', cap', rfl, hao', _⟩ := h'.form
  have H1 := hid h
  have H2 := hid h'
  have A1 := hid hao
  have A2 := hid hao'
  clear h h' hao hao'
  go_enter Yatv.func21, Yatv.ntmps21
  go_wp2
  go_loopw [5, 13] (fun _ i wr => (∃ m, wr = w.drewN m) ∧ ∃ k : Nat, i = .int .i64 k ∧ k ≤ n) (fun _ i _ => n - (intOf i).toNat)
  case atStart => exact ⟨⟨0, rfl⟩, 0, rfl, Nat.zero_le _⟩
  case round =>
    obtain ⟨⟨m, rfl⟩, k, rfl, hk⟩ := hrel
    by_cases hlt : k < n
    · obtain ⟨g, rfl⟩ := A1.out (by omega)
      obtain ⟨g', rfl⟩ := A2.out (by omega)
      have c1 := H1.out.cell (i := k) (by omega)
      have c2 := H2.out.cell (i := k) (by omega)
      have hi3 : (0 : Int) ≤ (k : Int) := by omega
      have hi4 : (k : Int) < (n : Int) := by omega
      go_wp2
      go_quiet (fail)
      go_wp2
      go_roundw
      case rel => exact ⟨⟨_, rfl⟩, k + 1, by go_num, by omega⟩
      case measure => simp [intOf]; omega
    · go_wp2
      go_ret
      exact ⟨rfl, _, rfl⟩

set_option maxHeartbeats 800000 in
theorem equal22 {w : World} {v v' : Value} {n : Nat} {f : Nat → Int} (h : Row w 3 1 v n (fun i => .int .i64 (f i))) (h' : Row w 3 1 v' n (fun i => .int .i64 (f i))) (hn : n ≤ 1000000000) :
    Calls Yatv.prog 22 #[v, v'] w fun e w' => e = .returned (.bool true) ∧ ∃ m, w' = w.drewN m := by
  obtain ⟨ao, cap, rfl, hao, _⟩ := h.form
  obtain ⟨ao', cap', rfl, hao', _⟩ := h'.form
  have H1 := hid h
  have H2 := hid h'
  have A1 := hid hao
  have A2 := hid hao'
  clear h h' hao hao'
  go_enter Yatv.func22, Yatv.ntmps22
  go_wp2
  go_loopw [5, 13] (fun _ i wr => (∃ m, wr = w.drewN m) ∧ ∃ k : Nat, i = .int .i64 k ∧ k ≤ n) (fun _ i _ => n - (intOf i).toNat)
  case atStart => exact ⟨⟨0, rfl⟩, 0, rfl, Nat.zero_le _⟩
  case round =>
    obtain ⟨⟨m, rfl⟩, k, rfl, hk⟩ := hrel
    by_cases hlt : k < n
    · obtain ⟨g, rfl⟩ := A1.out (by omega)
      obtain ⟨g', rfl⟩ := A2.out (by omega)
      have c1 := H1.out.cell (i := k) (by omega)
      have c2 := H2.out.cell (i := k) (by omega)
      have hi3 : (0 : Int) ≤ (k : Int) := by omega
      have hi4 : (k : Int) < (n : Int) := by omega
      go_wp2
      go_quiet (fail)
      go_wp2
      go_roundw
      case rel => exact ⟨⟨_, rfl⟩, k + 1, by go_num, by omega⟩
      case measure => simp [intOf]; omega
    · go_wp2
      go_ret
      exact ⟨rfl, _, rfl⟩

set_option maxHeartbeats 800000 in
theorem equal20 {w : World} {v v' : Value} {n : Nat} {f : Nat → Nat → Int} (h : Row w 38 26 v n (fun i => .int .i64 (f (i / 26) (i % 26)))) (h' : Row w 38 26 v' n (fun i => .int .i64 (f (i / 26) (i % 26)))) (hn : n ≤ 1000000000) :
    Calls Yatv.prog 20 #[v, v'] w fun e w' => e = .returned (.bool true) ∧ ∃ m, w' = w.drewN m := by
  obtain ⟨ao, cap, rfl, hao, _⟩ := h.form
  obtain ⟨ao', cap', rfl, hao', _⟩ := h'.form
  have H1 := hid h
  have H2 := hid h'
  have A1 := hid hao
  have A2 := hid hao'
  clear h h' hao hao'
  go_enter Yatv.func20, Yatv.ntmps20
  go_wp2
  go_loopw [5, 13] (fun _ i wr => (∃ m, wr = w.drewN m) ∧ ∃ k : Nat, i = .int .i64 k ∧ k ≤ n) (fun _ i _ => n - (intOf i).toNat)
  case atStart => exact ⟨⟨0, rfl⟩, 0, rfl, Nat.zero_le _⟩
  case round =>
    obtain ⟨⟨m, rfl⟩, k, rfl, hk⟩ := hrel
    by_cases hlt : k < n
    · obtain ⟨g, rfl⟩ := A1.out (by omega)
      obtain ⟨g', rfl⟩ := A2.out (by omega)
      have c1 : ∀ j, j < 26 → (w.drewN m).cell? ⟨g, k * 26 + j, none⟩ = some (.int .i64 (f k j)) := fun j hj => by
        have := H1.out.cell (i := k * 26 + j) (by omega)
        rw [World.cell?_drewN, this, show (k * 26 + j) / 26 = k by omega, show (k * 26 + j) % 26 = j by omega]
      have c2 : ∀ j, j < 26 → (w.drewN m).cell? ⟨g', k * 26 + j, none⟩ = some (.int .i64 (f k j)) := fun j hj => by
        have := H2.out.cell (i := k * 26 + j) (by omega)
        rw [World.cell?_drewN, this, show (k * 26 + j) / 26 = k by omega, show (k * 26 + j) % 26 = j by omega]
      have C1 := hid c1
      have C2 := hid c2
      clear c1 c2
      have hi3 : (0 : Int) ≤ (k : Int) := by omega
      have hi4 : (k : Int) < (n : Int) := by omega
      go_wp2
      refine wp_region_quiet_lit (by kernel_rfl) (by kernel_rfl) ?_
      repeat (first | (go_big_quiet_step (fail)) | (refine wpQuiet_load26 rfl (.tmp 18) rfl g (k * 26) (f k) rfl C1.out ?_; simp only [Act.put, List.setIfInBounds_toArray, List.set_cons_succ, List.set_cons_zero]) | (refine wpQuiet_load26 rfl (.tmp 22) rfl g' (k * 26) (f k) rfl C2.out ?_; simp only [Act.put, List.setIfInBounds_toArray, List.set_cons_succ, List.set_cons_zero]) | (refine wpQuiet_neq26 rfl (.tmp 19) (.tmp 23) rfl (f k) rfl rfl ?_; simp only [Act.put, List.setIfInBounds_toArray, List.set_cons_succ, List.set_cons_zero]))
      refine wpQuiet_nil ?_
      intro _ hw'
      obtain ⟨nq, hw''⟩ := hw'
      subst hw''
      go_wp2
      go_roundw
      case rel => exact ⟨⟨_, rfl⟩, k + 1, by go_num, by omega⟩
      case measure => simp [intOf]; omega
    · go_wp2
      go_ret
      exact ⟨rfl, _, rfl⟩

end Go.Proofs.Ymwhat
