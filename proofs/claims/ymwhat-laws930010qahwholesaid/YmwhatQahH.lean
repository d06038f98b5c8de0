import Derived.Test.YmwhatColl
set_option linter.unusedVariables false
set_option linter.unusedSimpArgs false
namespace Go.Proofs.Ymwhat
open Go.RowKit

theorem T.perm {w : World} {tb : Nat} {v0 v1 v2 : Value} {ps S S' : List (List UInt8)} (h : T w tb v0 v1 v2 ps.length (nxt ps) (wx ps (memb S)) (bx ps (cnt S))) (hp : S.Perm S') : T w tb v0 v1 v2 ps.length (nxt ps) (wx ps (memb S')) (bx ps (cnt S')) := by
  have e1 : memb S = memb S' := by
    funext x
    unfold memb
    rw [Bool.eq_iff_iff, decide_eq_true_iff, decide_eq_true_iff]
    exact hp.mem_iff
  have e2 : cnt S = cnt S' := by
    funext x
    exact hp.countP_eq _
  rw [← e1, ← e2]
  exact h

theorem SInv.perm {ps S S' : List (List UInt8)} (h : SInv ps S) (hp : S.Perm S') : SInv ps S' := ⟨h.p, hp.nodup_iff.1 h.nodup, fun x hx => h.sub x (hp.mem_iff.2 hx)⟩

set_option maxHeartbeats 1000000 in
theorem withPrefix_yes {w : World} {tb : Nat} {v0 v1 v2 : Value} {ps M : List (List UInt8)} (h : T w tb v0 v1 v2 ps.length (nxt ps) (wx ps (memb M)) (bx ps (cnt M))) (hi : SInv ps M) (hsr : Srt M) (hk : ps.length ≤ 1000000) (s : ByteArray) (hs : s.size ≤ 1000000) (hm : s.data.toList ∈ ps) :
    Calls Yatv.prog 38 #[.pointer (some ⟨tb,0,none⟩), .string s] w fun e w' => ∃ g cap, e = .returned (.slice (some ⟨g, 0, none⟩) (M.filter (preB s.data.toList)).length cap) ∧ SR w' (.slice (some ⟨g, 0, none⟩) (M.filter (preB s.data.toList)).length cap) (M.filter (preB s.data.toList)) ∧ Below w.heap.size w w' ∧ w.heap.size ≤ g := by
  have HH := hid h
  have HI := hid hi
  have HM := hid hm
  have hlen := hi.len_le
  have hfl := List.length_filter_le (preB s.data.toList) M
  have hcall := collect59 hi hsr hk ps.length (w.alloc (.cells #[] 9)) (ps.idxOf s.data.toList) w.heap.size 0 s.data.toList [] (by omega) (getElem?_idxOf hm) (h.later ((Below.refl _ _).alloc (Nat.le_refl _) _)) (SR.empty w) (fun hf => by have := h.foot_lt hf; omega) (by simp; omega)
  rw [bs_of] at hcall
  simp only [List.nil_append, List.length_nil] at hcall
  have HC := hid hcall
  clear h hi hm hsr hcall
  go_enter Yatv.func38, Yatv.ntmps38
  go_wp2_with (first | (go_at_call 55; refine (find_yes HH.out HI.out.p (by omega) s (by omega) HM.out).mono ?_; rintro e w' ⟨rfl, hw⟩; obtain rfl := hw.symm) | (go_at_call 59; refine HC.out.mono ?_; rintro e w2 ⟨g2, cap2, rfl, hSR2, hK2, hg2⟩))
  go_ret
  refine ⟨g2, cap2, rfl, hSR2, ?_, ?_⟩
  · exact ((Below.refl _ _).alloc (Nat.le_refl _) _).trans (hK2.below (by simp) (fun x hx e => by omega))
  · rcases hg2 with e | e
    · omega
    · simp at e; omega

theorem withPrefix38 {w : World} {tb : Nat} {v0 v1 v2 : Value} {ps S : List (List UInt8)} (h : T w tb v0 v1 v2 ps.length (nxt ps) (wx ps (memb S)) (bx ps (cnt S))) (hi : SInv ps S) (hk : ps.length ≤ 1000000) (s : ByteArray) (hs : s.size ≤ 1000000) :
    Calls Yatv.prog 38 #[.pointer (some ⟨tb,0,none⟩), .string s] w fun e w' => ∃ g cap, e = .returned (.slice (some ⟨g, 0, none⟩) ((srtd S).filter (preB s.data.toList)).length cap) ∧ SR w' (.slice (some ⟨g, 0, none⟩) ((srtd S).filter (preB s.data.toList)).length cap) ((srtd S).filter (preB s.data.toList)) ∧ Below w.heap.size w w' ∧ w.heap.size ≤ g := by
  by_cases hm : s.data.toList ∈ ps
  · exact withPrefix_yes (h.perm (srtd_perm S).symm) (hi.perm (srtd_perm S).symm) (srtd_srt hi.nodup) hk s hs hm
  · have hz : (srtd S).filter (preB s.data.toList) = [] := by
      rw [List.filter_eq_nil_iff]
      intro x hx hp
      exact hm (hi.p.prefixes (List.isPrefixOf_iff_prefix.1 hp) (hi.sub x ((srtd_perm S).mem_iff.1 hx)))
    rw [hz]
    refine (withPrefix_no h hi hk s hs hm).mono ?_
    rintro e w' ⟨rfl, rfl⟩
    exact ⟨w.heap.size, 0, rfl, SR.empty w, (Below.refl _ _).alloc (Nat.le_refl _) _, Nat.le_refl _⟩

set_option maxHeartbeats 800000 in
theorem equal40 {w : World} {v v' : Value} {A : List (List UInt8)} (h : SR w v A) (h' : SR w v' A) (hn : A.length ≤ 1000000000) :
    Calls Yatv.prog 40 #[v, v'] w fun e w' => e = .returned (.bool true) ∧ ∃ m, w' = w.drewN m := by
  obtain ⟨ao, cap, rfl, hao⟩ := h.form
  obtain ⟨ao', cap', rfl, hao'⟩ := h'.form
  have H1 := hid h
  have H2 := hid h'
  have A1 := hid hao
  have A2 := hid hao'
  clear h h' hao hao'
  generalize hnn : A.length = n at *
  go_enter Yatv.func40, Yatv.ntmps40
  go_wp2
  go_loopw [5, 13] (fun _ i wr => (∃ m, wr = w.drewN m) ∧ ∃ k : Nat, i = .int .i64 k ∧ k ≤ n) (fun _ i _ => n - (intOf i).toNat)
  case atStart => exact ⟨⟨0, rfl⟩, 0, rfl, Nat.zero_le _⟩
  case round =>
    obtain ⟨⟨m, rfl⟩, k, rfl, hk⟩ := hrel
    by_cases hlt : k < n
    · obtain ⟨g, rfl⟩ := A1.out (by omega)
      obtain ⟨g', rfl⟩ := A2.out (by omega)
      have c1 := Row.cell H1.out (i := k) (by omega)
      have c2 := Row.cell H2.out (i := k) (by omega)
      generalize bs (A.getD k []) = x at *
      have hi3 : (0 : Int) ≤ (k : Int) := by omega
      have hi4 : (k : Int) < (n : Int) := by omega
      have hxx : (x.toList != x.toList) = false := by simp
      go_wp2
      go_quiet (fail)
      go_wp2
      go_roundw
      case rel => exact ⟨⟨_, rfl⟩, k + 1, by go_num, by omega⟩
      case measure => simp [intOf]; omega
    · go_wp2
      go_ret
      exact ⟨rfl, _, rfl⟩

end Go.Proofs.Ymwhat
