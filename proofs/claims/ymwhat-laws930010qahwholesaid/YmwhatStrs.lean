import Derived.Test.YmwhatMap
set_option linter.unusedVariables false
set_option linter.unusedSimpArgs false
namespace Go.Proofs.Ymwhat
open Go.RowKit

/-- An own slice of strings. -/
def SR (w : World) (v : Value) (S : List (List UInt8)) : Prop := Row w 9 1 v S.length (fun i => .string (bs (S.getD i [])))

theorem beq_str (x t : ByteArray) : (x.toList == t.toList) = decide (x.data.toList = t.data.toList) := by
  rw [ByteArray.toList_eq, ByteArray.toList_eq]
  by_cases h : x.data.toList = t.data.toList
  · simp [h]
  · rw [decide_eq_false h, beq_eq_false_iff_ne]; exact h

/-- The string in cell k. -/
theorem SR.cell {w : World} {g n cap : Nat} {S : List (List UInt8)} (h : SR w (.slice (some ⟨g, 0, none⟩) n cap) S) (k : Nat) (hk : k < S.length) : ∃ x : ByteArray, w.cell? ⟨g, k, none⟩ = some (.string x) ∧ x.data.toList = S[k] := by
  refine ⟨bs (S.getD k []), Row.cell h (by omega), ?_⟩
  rw [bs_data]; simp [List.getD, List.getElem?_eq_getElem hk]

theorem SR.form {w : World} {v : Value} {S : List (List UInt8)} (h : SR w v S) : ∃ ao cap, v = .slice ao S.length cap ∧ (0 < S.length → ∃ g, ao = some ⟨g, 0, none⟩) := by
  obtain ⟨ao, cap, h1, h2, _⟩ := Row.form h
  exact ⟨ao, cap, h1, h2⟩

theorem not_mem_of_before {S : List (List UInt8)} {q : List UInt8} (h : ∀ j, (hj : j < S.length) → S[j] ≠ q) : q ∉ S := by
  intro hm
  obtain ⟨i, hi, e⟩ := List.mem_iff_getElem.1 hm
  exact h i hi e

theorem idxOf_first {q : List UInt8} : ∀ {S : List (List UInt8)} {k : Nat} (hk : k < S.length) (e : S[k] = q) (h : ∀ j, j < k → (hj : j < S.length) → S[j] ≠ q), S.idxOf q = k
  | [], k, hk, _, _ => absurd hk (Nat.not_lt_zero _)
  | a :: r, 0, hk, e, h => by simp at e; subst e; simp
  | a :: r, k + 1, hk, e, h => by
    have h0 := h 0 (by omega) (by simp)
    simp at h0
    have hk' : k < r.length := by simpa using hk
    have ih := idxOf_first (S := r) (k := k) hk' (by simpa using e) (fun j hj hjl => by have := h (j + 1) (by omega) (by simpa using hjl); simpa using this)
    rw [List.idxOf_cons]
    have hb : (a == q) = false := by rw [beq_eq_false_iff_ne]; exact h0
    simp [hb, ih]

def idxI (S : List (List UInt8)) (q : List UInt8) : Int := if q ∈ S then ((S.idxOf q : Nat) : Int) else -1

set_option maxHeartbeats 400000 in
theorem in15 {w : World} {v : Value} {S : List (List UInt8)} (h : SR w v S) (hn : S.length ≤ 1000000000) (q : ByteArray) :
    Calls Yatv.prog 15 #[v, .string q] w fun e w' => e = .returned (.bool (memb S q.data.toList)) ∧ w' = w := by
  obtain ⟨ao, cap, rfl, hao⟩ := h.form
  have HH := hid h
  have HAO := hid hao
  clear h hao
  go_enter Yatv.func15, Yatv.ntmps15
  go_wp2
  go_loopw [5] (fun i wr => wr = w ∧ ∃ k : Nat, i = .int .i64 k ∧ k ≤ S.length ∧ ∀ j, j < k → (hj : j < S.length) → S[j] ≠ q.data.toList) (fun i _ => S.length - (intOf i).toNat)
  case atStart => exact ⟨rfl, 0, rfl, Nat.zero_le _, fun j hj => absurd hj (Nat.not_lt_zero _)⟩
  case round =>
    obtain ⟨rfl, k, rfl, hk, hb⟩ := hrel
    have HB := hid hb
    clear hb
    by_cases hlt : k < S.length
    · obtain ⟨g, rfl⟩ := HAO.out (by omega)
      obtain ⟨x, hx, ex⟩ := HH.out.cell k hlt
      have EX := hid ex
      clear ex
      by_cases he : S[k] = q.data.toList
      · have hq : (x.toList == q.toList) = true := by rw [beq_str, EX.out]; simp [he]
        have hq' : (q.toList == x.toList) = true := by rw [beq_str, EX.out]; simp [he]
        have HE := hid he
        clear he
        go_wp2
        go_ret
        have hm : q.data.toList ∈ S := HE.out ▸ List.getElem_mem hlt
        exact ⟨by simp [memb, hm], rfl⟩
      · have hq : (x.toList == q.toList) = false := by rw [beq_str, EX.out]; simp [he]
        have hq' : (q.toList == x.toList) = false := by rw [beq_str, EX.out]; exact decide_eq_false (fun e => he e.symm)
        have HE := hid he
        clear he
        go_wp2
        go_roundw
        case rel =>
          refine ⟨by trivial, k + 1, by go_num, by omega, fun j hj hjl => ?_⟩
          by_cases e : j = k
          · subst e; exact HE.out
          · exact HB.out j (by omega) hjl
        case measure => simp [intOf]; omega
    · go_wp2
      go_ret
      have hnm : q.data.toList ∉ S := not_mem_of_before (fun j hj => HB.out j (by omega) hj)
      exact ⟨by simp [memb, hnm], rfl⟩

set_option maxHeartbeats 400000 in
theorem in32 {w : World} {v : Value} {S : List (List UInt8)} (h : SR w v S) (hn : S.length ≤ 1000000000) (q : ByteArray) :
    Calls Yatv.prog 32 #[v, .string q] w fun e w' => e = .returned (.bool (memb S q.data.toList)) ∧ w' = w := by
  obtain ⟨ao, cap, rfl, hao⟩ := h.form
  have HH := hid h
  have HAO := hid hao
  clear h hao
  go_enter Yatv.func32, Yatv.ntmps32
  go_wp2
  go_loopw [5] (fun i wr => wr = w ∧ ∃ k : Nat, i = .int .i64 k ∧ k ≤ S.length ∧ ∀ j, j < k → (hj : j < S.length) → S[j] ≠ q.data.toList) (fun i _ => S.length - (intOf i).toNat)
  case atStart => exact ⟨rfl, 0, rfl, Nat.zero_le _, fun j hj => absurd hj (Nat.not_lt_zero _)⟩
  case round =>
    obtain ⟨rfl, k, rfl, hk, hb⟩ := hrel
    have HB := hid hb
    clear hb
    by_cases hlt : k < S.length
    · obtain ⟨g, rfl⟩ := HAO.out (by omega)
      obtain ⟨x, hx, ex⟩ := HH.out.cell k hlt
      have EX := hid ex
      clear ex
      by_cases he : S[k] = q.data.toList
      · have hq : (x.toList == q.toList) = true := by rw [beq_str, EX.out]; simp [he]
        have hq' : (q.toList == x.toList) = true := by rw [beq_str, EX.out]; simp [he]
        have HE := hid he
        clear he
        go_wp2
        go_ret
        have hm : q.data.toList ∈ S := HE.out ▸ List.getElem_mem hlt
        exact ⟨by simp [memb, hm], rfl⟩
      · have hq : (x.toList == q.toList) = false := by rw [beq_str, EX.out]; simp [he]
        have hq' : (q.toList == x.toList) = false := by rw [beq_str, EX.out]; exact decide_eq_false (fun e => he e.symm)
        have HE := hid he
        clear he
        go_wp2
        go_roundw
        case rel =>
          refine ⟨by trivial, k + 1, by go_num, by omega, fun j hj hjl => ?_⟩
          by_cases e : j = k
          · subst e; exact HE.out
          · exact HB.out j (by omega) hjl
        case measure => simp [intOf]; omega
    · go_wp2
      go_ret
      have hnm : q.data.toList ∉ S := not_mem_of_before (fun j hj => HB.out j (by omega) hj)
      exact ⟨by simp [memb, hnm], rfl⟩

set_option maxHeartbeats 400000 in
theorem index48 {w : World} {v : Value} {S : List (List UInt8)} (h : SR w v S) (hn : S.length ≤ 1000000000) (q : ByteArray) :
    Calls Yatv.prog 48 #[v, .string q] w fun e w' => e = .returned (.int .i64 (idxI S q.data.toList)) ∧ w' = w := by
  obtain ⟨ao, cap, rfl, hao⟩ := h.form
  have HH := hid h
  have HAO := hid hao
  clear h hao
  go_enter Yatv.func48, Yatv.ntmps48
  go_wp2
  go_loopw [5] (fun i wr => wr = w ∧ ∃ k : Nat, i = .int .i64 k ∧ k ≤ S.length ∧ ∀ j, j < k → (hj : j < S.length) → S[j] ≠ q.data.toList) (fun i _ => S.length - (intOf i).toNat)
  case atStart => exact ⟨rfl, 0, rfl, Nat.zero_le _, fun j hj => absurd hj (Nat.not_lt_zero _)⟩
  case round =>
    obtain ⟨rfl, k, rfl, hk, hb⟩ := hrel
    have HB := hid hb
    clear hb
    by_cases hlt : k < S.length
    · obtain ⟨g, rfl⟩ := HAO.out (by omega)
      obtain ⟨x, hx, ex⟩ := HH.out.cell k hlt
      have EX := hid ex
      clear ex
      by_cases he : S[k] = q.data.toList
      · have hq : (x.toList == q.toList) = true := by rw [beq_str, EX.out]; simp [he]
        have hq' : (q.toList == x.toList) = true := by rw [beq_str, EX.out]; simp [he]
        have HE := hid he
        clear he
        go_wp2
        go_ret
        have hm : q.data.toList ∈ S := HE.out ▸ List.getElem_mem hlt
        refine ⟨?_, rfl⟩
        rw [idxI, if_pos hm, idxOf_first hlt HE.out HB.out]
        rfl
      · have hq : (x.toList == q.toList) = false := by rw [beq_str, EX.out]; simp [he]
        have hq' : (q.toList == x.toList) = false := by rw [beq_str, EX.out]; exact decide_eq_false (fun e => he e.symm)
        have HE := hid he
        clear he
        go_wp2
        go_roundw
        case rel =>
          refine ⟨by trivial, k + 1, by go_num, by omega, fun j hj hjl => ?_⟩
          by_cases e : j = k
          · subst e; exact HE.out
          · exact HB.out j (by omega) hjl
        case measure => simp [intOf]; omega
    · go_wp2
      go_ret
      have hnm : q.data.toList ∉ S := not_mem_of_before (fun j hj => HB.out j (by omega) hj)
      refine ⟨?_, rfl⟩
      rw [idxI, if_neg hnm]
      rfl

set_option maxHeartbeats 400000 in
theorem index25 {w : World} {v : Value} {S : List (List UInt8)} (h : SR w v S) (hn : S.length ≤ 1000000000) (q : ByteArray) :
    Calls Yatv.prog 25 #[v, .string q] w fun e w' => e = .returned (.int .i64 (idxI S q.data.toList)) ∧ w' = w := by
  obtain ⟨ao, cap, rfl, hao⟩ := h.form
  have HH := hid h
  have HAO := hid hao
  clear h hao
  go_enter Yatv.func25, Yatv.ntmps25
  go_wp2
  go_loopw [5, 8] (fun _ i wr => wr = w ∧ ∃ k : Nat, i = .int .i64 k ∧ k ≤ S.length ∧ ∀ j, j < k → (hj : j < S.length) → S[j] ≠ q.data.toList) (fun _ i _ => S.length - (intOf i).toNat)
  case atStart => exact ⟨rfl, 0, rfl, Nat.zero_le _, fun j hj => absurd hj (Nat.not_lt_zero _)⟩
  case round =>
    obtain ⟨rfl, k, rfl, hk, hb⟩ := hrel
    have HB := hid hb
    clear hb
    by_cases hlt : k < S.length
    · obtain ⟨g, rfl⟩ := HAO.out (by omega)
      obtain ⟨x, hx, ex⟩ := HH.out.cell k hlt
      have EX := hid ex
      clear ex
      by_cases he : S[k] = q.data.toList
      · have hq : (x.toList == q.toList) = true := by rw [beq_str, EX.out]; simp [he]
        have hq' : (q.toList == x.toList) = true := by rw [beq_str, EX.out]; simp [he]
        have HE := hid he
        clear he
        go_wp2
        go_ret
        have hm : q.data.toList ∈ S := HE.out ▸ List.getElem_mem hlt
        refine ⟨?_, rfl⟩
        rw [idxI, if_pos hm, idxOf_first hlt HE.out HB.out]
        rfl
      · have hq : (x.toList == q.toList) = false := by rw [beq_str, EX.out]; simp [he]
        have hq' : (q.toList == x.toList) = false := by rw [beq_str, EX.out]; exact decide_eq_false (fun e => he e.symm)
        have HE := hid he
        clear he
        go_wp2
        go_roundw
        case rel =>
          refine ⟨by trivial, k + 1, by go_num, by omega, fun j hj hjl => ?_⟩
          by_cases e : j = k
          · subst e; exact HE.out
          · exact HB.out j (by omega) hjl
        case measure => simp [intOf]; omega
    · go_wp2
      go_ret
      have hnm : q.data.toList ∉ S := not_mem_of_before (fun j hj => HB.out j (by omega) hj)
      refine ⟨?_, rfl⟩
      rw [idxI, if_neg hnm]
      rfl

set_option maxHeartbeats 400000 in
theorem contains24 {w : World} {v : Value} {S : List (List UInt8)} (h : SR w v S) (hn : S.length ≤ 1000000000) (q : ByteArray) :
    Calls Yatv.prog 24 #[v, .string q] w fun e w' => e = .returned (.bool (memb S q.data.toList)) ∧ w' = w := by
  have HH := hid h
  clear h
  go_enter Yatv.func24, Yatv.ntmps24
  go_wp2_with (go_at_call 25; refine (index25 HH.out hn q).mono ?_; rintro e w' ⟨rfl, rfl⟩)
  go_ret
  refine ⟨?_, rfl⟩
  by_cases hm : q.data.toList ∈ S
  · simp [memb, idxI, hm]
  · simp [memb, idxI, hm]

end Go.Proofs.Ymwhat
