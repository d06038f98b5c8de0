import Derived.Test.YmwhatCopy
set_option linter.unusedVariables false
set_option linter.unusedSimpArgs false
namespace Go.Proofs.Ymwhat
open Go.RowKit

/-- 'find', by paths. -/
theorem find_yes {w : World} {tb : Nat} {v0 v1 v2 : Value} {ps : List (List UInt8)} {W : Nat → Bool} {B : Nat → Int} (h : T w tb v0 v1 v2 ps.length (nxt ps) W B) (hp : PInv ps) (hk : ps.length ≤ 1000000000) (s : ByteArray) (hs : s.size ≤ 1000000000) (hm : s.data.toList ∈ ps) :
    Calls Yatv.prog 55 #[.pointer (some ⟨tb,0,none⟩), .string s] w fun e w' => e = .returned (.tuple #[.int .i64 (ps.idxOf s.data.toList : Nat), .bool true]) ∧ w' = w := by
  have := find_any h hk hp.closed s hs
  have hne : ps ≠ [] := fun e => by simp [e] at hm
  rw [hp.wlk0 hne, if_pos hm, fres_some (fun e => hne (List.eq_nil_of_length_eq_zero e))] at this
  exact this

theorem find_no {w : World} {tb : Nat} {v0 v1 v2 : Value} {ps : List (List UInt8)} {W : Nat → Bool} {B : Nat → Int} (h : T w tb v0 v1 v2 ps.length (nxt ps) W B) (hp : PInv ps) (hk : ps.length ≤ 1000000000) (s : ByteArray) (hs : s.size ≤ 1000000000) (hm : s.data.toList ∉ ps) :
    Calls Yatv.prog 55 #[.pointer (some ⟨tb,0,none⟩), .string s] w fun e w' => e = .returned (.tuple #[.int .i64 0, .bool false]) ∧ w' = w := by
  have := find_any h hk hp.closed s hs
  by_cases hne : ps = []
  · subst hne
    simpa [fres] using this
  · rw [hp.wlk0 hne, if_neg hm, fres_none] at this
    exact this

set_option maxHeartbeats 400000 in
theorem count28 {w : World} {tb : Nat} {v0 v1 v2 : Value} {ps S : List (List UInt8)} (h : T w tb v0 v1 v2 ps.length (nxt ps) (wx ps (memb S)) (bx ps (cnt S))) (hi : SInv ps S) (hk : ps.length ≤ 1000000000) (s : ByteArray) (hs : s.size ≤ 1000000000) :
    Calls Yatv.prog 28 #[.pointer (some ⟨tb,0,none⟩), .string s] w fun e w' => e = .returned (.int .i64 (cnt S s.data.toList)) ∧ w' = w := by
  have HH := hid h
  have HI := hid hi
  by_cases hm : s.data.toList ∈ ps
  · have hml := List.idxOf_lt_length_iff.2 hm
    obtain ⟨g, cap, rfl, _⟩ := h.r2.pos (by omega)
    have hc2 := h.c2
    have hcw := h.r2.cell (i := ps.idxOf s.data.toList) (by omega)
    rw [bx_some (getElem?_idxOf hm)] at hcw
    have HM := hid hm
    clear h hi hm
    go_enter Yatv.func28, Yatv.ntmps28
    go_wp2_with (go_at_call 55; refine (find_yes HH.out HI.out.p hk s hs HM.out).mono ?_; rintro e w' ⟨rfl, rfl⟩)
    go_ret
    exact ⟨rfl, rfl⟩
  · have HM := hid hm
    have HZ := hid (cnt_zero hi hm)
    clear h hi hm
    go_enter Yatv.func28, Yatv.ntmps28
    go_wp2_with (go_at_call 55; refine (find_no HH.out HI.out.p hk s hs HM.out).mono ?_; rintro e w' ⟨rfl, rfl⟩)
    go_ret
    rw [HZ.out]
    exact ⟨rfl, rfl⟩

/-- b, f: the longest beginning of s, up to n letters, that is in S. -/
def LP (S : List (List UInt8)) (s : List UInt8) (n b : Nat) (f : Bool) : Prop :=
  (f = true ∧ b ≤ n ∧ s.take b ∈ S ∧ ∀ k, k ≤ n → s.take k ∈ S → k ≤ b) ∨ (f = false ∧ b = 0 ∧ ∀ k, k ≤ n → s.take k ∉ S)

theorem LP.uniq {S : List (List UInt8)} {s : List UInt8} {n b b' : Nat} {f f' : Bool} (h : LP S s n b f) (h' : LP S s n b' f') : b = b' ∧ f = f' := by
  rcases h with ⟨rfl, h1, h2, h3⟩ | ⟨rfl, rfl, h3⟩
  · rcases h' with ⟨rfl, g1, g2, g3⟩ | ⟨rfl, rfl, g3⟩
    · have := h3 b' g1 g2
      have := g3 b h1 h2
      exact ⟨by omega, rfl⟩
    · exact absurd h2 (g3 b h1)
  · rcases h' with ⟨rfl, g1, g2, g3⟩ | ⟨rfl, rfl, g3⟩
    · exact absurd g2 (h3 b' g1)
    · exact ⟨rfl, rfl⟩

theorem LP.zero (S : List (List UInt8)) (s : List UInt8) : LP S s 0 0 (memb S []) := by
  by_cases h : [] ∈ S
  · exact .inl ⟨by simp [memb, h], Nat.le_refl _, by simpa using h, fun k hk _ => by omega⟩
  · exact .inr ⟨by simp [memb, h], rfl, fun k hk => by
      have : k = 0 := by omega
      subst this
      simpa using h⟩

theorem LP.hit {S : List (List UInt8)} {s : List UInt8} {n b : Nat} {f : Bool} (h : LP S s n b f) (hm : s.take (n + 1) ∈ S) : LP S s (n + 1) (n + 1) true :=
  .inl ⟨rfl, Nat.le_refl _, hm, fun k hk _ => hk⟩

theorem LP.miss {S : List (List UInt8)} {s : List UInt8} {n b : Nat} {f : Bool} (h : LP S s n b f) (hm : s.take (n + 1) ∉ S) : LP S s (n + 1) b f := by
  rcases h with ⟨rfl, h1, h2, h3⟩ | ⟨rfl, rfl, h3⟩
  · refine .inl ⟨rfl, by omega, h2, fun k hk hk2 => ?_⟩
    by_cases e : k = n + 1
    · subst e; exact absurd hk2 hm
    · exact h3 k (by omega) hk2
  · refine .inr ⟨rfl, rfl, fun k hk => ?_⟩
    by_cases e : k = n + 1
    · subst e; exact hm
    · exact h3 k (by omega)

/-- The path ends: no longer beginning is there. -/
theorem LP.stop {ps S : List (List UInt8)} (hi : SInv ps S) {s : List UInt8} {n b : Nat} {f : Bool} (h : LP S s n b f) (hn : n < s.length) (hm : s.take (n + 1) ∉ ps) : LP S s s.length b f := by
  have key : ∀ k, n < k → s.take k ∉ S := fun k hk hS => hm (hi.p.prefixes (List.take_prefix_take_left (by omega)) (hi.sub _ hS))
  rcases h with ⟨rfl, h1, h2, h3⟩ | ⟨rfl, rfl, h3⟩
  · refine .inl ⟨rfl, by omega, h2, fun k hk hk2 => ?_⟩
    rcases Nat.lt_or_ge n k with e | e
    · exact absurd hk2 (key k e)
    · exact h3 k e hk2
  · refine .inr ⟨rfl, rfl, fun k hk => ?_⟩
    rcases Nat.lt_or_ge n k with e | e
    · exact key k e
    · exact h3 k e

set_option maxHeartbeats 400000 in
theorem longest_nil (tb : Nat) (ao : Option Addr) (c0 : Nat) (s : ByteArray) (w : World) (hc : w.cell? ⟨tb, 0, none⟩ = some (.slice ao 0 c0)) :
    Calls Yatv.prog 33 #[.pointer (some ⟨tb,0,none⟩), .string s] w fun e w' => e = .returned (.tuple #[.int .i64 0, .bool false]) ∧ w' = w := by
  go_enter Yatv.func33, Yatv.ntmps33
  go_wp2
  go_ret2
  exact ⟨rfl, rfl⟩

set_option maxHeartbeats 1000000 in
theorem longest33 {w : World} {tb : Nat} {v0 v1 v2 : Value} {ps S : List (List UInt8)} (h : T w tb v0 v1 v2 ps.length (nxt ps) (wx ps (memb S)) (bx ps (cnt S))) (hi : SInv ps S) (hk : ps.length ≤ 1000000000) (s : ByteArray) (hs : s.size ≤ 1000000000) :
    Calls Yatv.prog 33 #[.pointer (some ⟨tb,0,none⟩), .string s] w fun e w' => ∃ (b : Nat) (f : Bool), e = .returned (.tuple #[.int .i64 b, .bool f]) ∧ LP S s.data.toList s.size b f ∧ w' = w := by
  have hlen : s.data.toList.length = s.size := by simp
  by_cases hz : ps.length = 0
  · have hps := List.eq_nil_of_length_eq_zero hz
    obtain ⟨ao, cap, hv, _⟩ := h.r0.form
    have hc := h.c0
    rw [hv, hz] at hc
    refine (longest_nil tb ao cap s w hc).mono fun e w' ⟨h1, h2⟩ => ⟨0, false, h1, ?_, h2⟩
    refine .inr ⟨rfl, rfl, fun k _ hS => ?_⟩
    have := hi.sub _ hS
    rw [hps] at this
    simp at this
  have hpos : 0 < ps.length := by omega
  have hne : ps ≠ [] := fun e => hz (by simp [e])
  have hroot := hi.p.root hne
  obtain ⟨g0, c0, rfl, _⟩ := h.r0.pos hpos
  obtain ⟨g1, c1, rfl, _⟩ := h.r1.pos hpos
  have hd0 := h.c0
  have hd1 := h.c1
  have hw0 := h.r1.cell (i := 0) (by omega)
  rw [wx_some hroot] at hw0
  have HH := hid h
  have HI := hid hi
  have HL := hid hlen
  have HZ := hid (LP.zero S s.data.toList)
  have hkz : ((ps.length : Int) == 0) = false := by simp; exact hne
  have HRo := hid hroot
  have HNE := hid hne
  clear h hi hlen hroot hne hz
  generalize hb0 : memb S [] = f0 at *
  go_enter Yatv.func33, Yatv.ntmps33
  go_wp2
  clear hw0 hd0
  go_loopw [6, 7, 8, 9, 10, 11] (fun n b f i _ _ wr => wr = w ∧ ∃ (a bb k : Nat) (ff : Bool), n = .int .i64 a ∧ b = .int .i64 bb ∧ f = .bool ff ∧ i = .int .i64 k ∧ k ≤ s.size ∧ bb ≤ s.size ∧ ps[a]? = some (s.data.toList.take k) ∧ LP S s.data.toList k bb ff) (fun _ _ _ i _ _ _ => s.size - (intOf i).toNat)
  case atStart => exact ⟨rfl, 0, 0, 0, f0, rfl, rfl, rfl, rfl, Nat.zero_le _, Nat.zero_le _, by simpa using HRo.out, HZ.out⟩
  case round =>
    obtain ⟨rfl, a, bb, k, ff, rfl, rfl, rfl, rfl, hk1, hbb, hpa, hlp⟩ := hrel
    have HPA := hid hpa
    have HLP := hid hlp
    have hal : a < ps.length := (List.getElem?_eq_some_iff.1 hpa).1
    clear hpa hlp HZ
    by_cases hlt : k < s.size
    · have hlt' : k < s.data.toList.length := by rw [HL.out]; exact hlt
      have h256 : s[k].toNat < 256 := s[k].toNat_lt
      have hcs : s.data.toList.take (k + 1) = s.data.toList.take k ++ [s[k]] := take_succ_snoc _ _ hlt'
      have hch := HI.out.p.chd HPA.out s[k]
      rw [← hcs] at hch
      by_cases hm : s.data.toList.take (k + 1) ∈ ps
      · rw [if_pos hm] at hch
        have hml := List.idxOf_lt_length_iff.2 hm
        have hm0 := HI.out.p.idx_pos hm (fun e => by have := congrArg List.length e; rw [List.length_take, List.length_nil] at this; omega)
        have hw1 := HH.out.r1.cell (i := ps.idxOf (s.data.toList.take (k + 1))) (by omega)
        rw [wx_some (getElem?_idxOf hm)] at hw1
        have HG := hid (getElem?_idxOf hm)
        have HC : Hid (chd (nxt ps) a s[k].toNat = ((ps.idxOf (s.data.toList.take (k + 1)) : Nat) : Int)) := hch
        clear hch hcs hm
        generalize hj : ps.idxOf (s.data.toList.take (k + 1)) = j at *
        have hz' : (((j : Nat) : Int) != 0) = true := by simp; omega
        clear hj
        cases hmb : memb S (s.data.toList.take (k + 1))
        · have hm9 : s.data.toList.take (k + 1) ∉ S := by simpa [memb] using hmb
          have HM := hid hm9
          clear hm9
          rw [hmb] at hw1
          go_wp2_with (go_at_call 57; refine (child_any HH.out a _ hal hk h256).mono ?_; rw [HC.out]; rintro e w' ⟨rfl, rfl⟩)
          go_roundw
          case rel => exact ⟨by trivial, j, bb, k + 1, ff, rfl, rfl, rfl, by go_num, by omega, hbb, HG.out, HLP.out.miss HM.out⟩
          case measure => simp [intOf]; omega
        · have hm9 : s.data.toList.take (k + 1) ∈ S := by simpa [memb] using hmb
          have HM := hid hm9
          clear hm9
          rw [hmb] at hw1
          go_wp2_with (go_at_call 57; refine (child_any HH.out a _ hal hk h256).mono ?_; rw [HC.out]; rintro e w' ⟨rfl, rfl⟩)
          go_roundw
          case rel => exact ⟨by trivial, j, k + 1, k + 1, true, rfl, by go_num, rfl, by go_num, by omega, by omega, HG.out, HLP.out.hit HM.out⟩
          case measure => simp [intOf]; omega
      · rw [if_neg hm] at hch
        have HC : Hid (chd (nxt ps) a s[k].toNat = 0) := hch
        have HM := hid hm
        clear hch hcs hm
        go_wp2_with (go_at_call 57; refine (child_any HH.out a _ hal hk h256).mono ?_; rw [HC.out]; rintro e w' ⟨rfl, rfl⟩)
        go_ret2
        refine ⟨bb, ff, rfl, ?_, rfl⟩
        have := HLP.out.stop HI.out hlt' HM.out
        rw [HL.out] at this
        exact this
    · obtain rfl : k = s.size := by omega
      go_wp2
      go_ret2
      exact ⟨bb, ff, rfl, HLP.out, rfl⟩

end Go.Proofs.Ymwhat
