import Derived.Test.YmwhatOrd
set_option linter.unusedVariables false
set_option linter.unusedSimpArgs false
namespace Go.Proofs.Ymwhat
open Go.RowKit


theorem wsum_le (S : List (List UInt8)) (p : List UInt8) : ∀ L, wsum S p L ≤ L * S.length
  | 0 => by simp [wsum]
  | L + 1 => by
    have := wsum_le S p L
    have h2 := cnt_le S (p ++ [ltr L])
    rw [wsum, Nat.succ_mul]
    omega

set_option maxHeartbeats 400000 in
theorem weight_at (tb g0 c0 g2 c2 k n l : Nat) (m : Nat) (x : Int) (w : World) (h0 : w.cell? ⟨tb,0,none⟩ = some (.slice (some ⟨g0,0,none⟩) k c0)) (h2 : w.cell? ⟨tb,2,none⟩ = some (.slice (some ⟨g2,0,none⟩) k c2)) (hn : n < k) (hk : k ≤ 1000000000) (hl : l < 26)
    (hcell : w.cell? ⟨g0, n*26 + l, none⟩ = some (.int .i64 m)) (hm0 : 0 < m) (hm : m < k) (hx : w.cell? ⟨g2, m, none⟩ = some (.int .i64 x)) :
    Calls Yatv.prog 58 #[.pointer (some ⟨tb,0,none⟩), .int .i64 n, .int .i64 l] w fun e w' => e = .returned (.int .i64 x) ∧ w' = w := by
  have hz : (((m : Nat) : Int) == 0) = false := by simp; omega
  go_enter Yatv.func58, Yatv.ntmps58
  go_wp2
  go_ret
  exact ⟨rfl, rfl⟩

set_option maxHeartbeats 400000 in
theorem weight_no (tb g0 c0 k n l : Nat) (w : World) (h0 : w.cell? ⟨tb,0,none⟩ = some (.slice (some ⟨g0,0,none⟩) k c0)) (hn : n < k) (hk : k ≤ 1000000000) (hl : l < 26)
    (hcell : w.cell? ⟨g0, n*26 + l, none⟩ = some (.int .i64 0)) :
    Calls Yatv.prog 58 #[.pointer (some ⟨tb,0,none⟩), .int .i64 n, .int .i64 l] w fun e w' => e = .returned (.int .i64 0) ∧ w' = w := by
  go_enter Yatv.func58, Yatv.ntmps58
  go_wp2
  go_ret
  exact ⟨rfl, rfl⟩

theorem weight58 {w : World} {tb : Nat} {v0 v1 v2 : Value} {ps S : List (List UInt8)} (h : T w tb v0 v1 v2 ps.length (nxt ps) (wx ps (memb S)) (bx ps (cnt S))) (hi : SInv ps S) (hk : ps.length ≤ 1000000000) {n : Nat} {p : List UInt8} (hp : ps[n]? = some p) (l : Nat) (hl : l < 26) :
    Calls Yatv.prog 58 #[.pointer (some ⟨tb,0,none⟩), .int .i64 n, .int .i64 l] w fun e w' => e = .returned (.int .i64 (cnt S (p ++ [ltr l]))) ∧ w' = w := by
  have hn : n < ps.length := (List.getElem?_eq_some_iff.1 hp).1
  obtain ⟨g0, c0, rfl, _⟩ := h.r0.pos (by omega)
  obtain ⟨g2, c2, rfl, _⟩ := h.r2.pos (by omega)
  have hc := h.r0.cell (i := n * 26 + l) (by omega)
  rw [show (n * 26 + l) / 26 = n by omega, show (n * 26 + l) % 26 = l by omega, nxt_some hp, show UInt8.ofNat (97 + l) = ltr l from rfl] at hc
  by_cases hm : p ++ [ltr l] ∈ ps
  · rw [if_pos hm] at hc
    have hml := List.idxOf_lt_length_iff.2 hm
    have hx := h.r2.cell (i := ps.idxOf (p ++ [ltr l])) (by omega)
    rw [bx_some (getElem?_idxOf hm)] at hx
    exact weight_at tb g0 c0 g2 c2 ps.length n l _ _ w h.c0 h.c2 hn hk hl hc (hi.p.idx_pos hm (by simp)) hml hx
  · rw [if_neg hm] at hc
    rw [cnt_zero hi hm]
    exact weight_no tb g0 c0 ps.length n l w h.c0 hn hk hl hc

theorem SInv.len_le {ps S : List (List UInt8)} (hi : SInv ps S) : S.length ≤ ps.length := length_le_of_sub hi.nodup hi.sub

set_option maxHeartbeats 400000 in
theorem rank_nil (tb : Nat) (ao : Option Addr) (c0 : Nat) (s : ByteArray) (w : World) (hc : w.cell? ⟨tb, 0, none⟩ = some (.slice ao 0 c0)) :
    Calls Yatv.prog 36 #[.pointer (some ⟨tb,0,none⟩), .string s] w fun e w' => e = .returned (.int .i64 0) ∧ w' = w := by
  go_enter Yatv.func36, Yatv.ntmps36
  go_wp2
  go_ret
  exact ⟨rfl, rfl⟩

theorem SInv.valid {ps S : List (List UInt8)} (hi : SInv ps S) : ∀ x ∈ S, validB x = true := fun x hx => hi.p.letters x (hi.sub x hx)

def mone (S : List (List UInt8)) (p : List UInt8) : Nat := if p ∈ S then 1 else 0

theorem mone_yes {S : List (List UInt8)} {p : List UInt8} (h : memb S p = true) : mone S p = 1 := by
  unfold mone; rw [if_pos (by simpa [memb] using h)]
theorem mone_no {S : List (List UInt8)} {p : List UInt8} (h : memb S p = false) : mone S p = 0 := by
  unfold mone; rw [if_neg (by simpa [memb] using h)]

/-- The letters' round in Rank is over. -/
theorem rk_next {ps S : List (List UInt8)} (hi : SInv ps S) (q : List UInt8) (i L : Nat) (hlt : i < q.length) (hL : L ≤ 26) (h1 : ¬ (L < 26 ∧ 97 + L < q[i].toNat)) (h2 : L = 0 ∨ 97 + (L - 1) < q[i].toNat) :
    rkTo S q i + mone S (q.take i) + wsum S (q.take i) L = rkTo S q (i + 1) := by
  rw [rkTo_step hi.nodup hi.valid q i hlt L hL (by omega) h2]
  rfl

set_option maxHeartbeats 4000000 in
theorem rank36 {w : World} {tb : Nat} {v0 v1 v2 : Value} {ps S : List (List UInt8)} (h : T w tb v0 v1 v2 ps.length (nxt ps) (wx ps (memb S)) (bx ps (cnt S))) (hi : SInv ps S) (hk : ps.length ≤ 1000000000) (s : ByteArray) (hs : s.size ≤ 1000000000) :
    Calls Yatv.prog 36 #[.pointer (some ⟨tb,0,none⟩), .string s] w fun e w' => e = .returned (.int .i64 (rk S s.data.toList)) ∧ w' = w := by
  have hlen : s.data.toList.length = s.size := by simp
  by_cases hz : ps.length = 0
  · have hps := List.eq_nil_of_length_eq_zero hz
    obtain ⟨ao, cap, hv, _⟩ := h.r0.form
    have hc := h.c0
    rw [hv, hz] at hc
    have hS : S = [] := List.eq_nil_of_length_eq_zero (by have := hi.len_le; omega)
    subst hS
    exact rank_nil tb ao cap s w hc
  have hpos : 0 < ps.length := by omega
  have hne : ps ≠ [] := fun e => hz (by simp [e])
  have hroot := hi.p.root hne
  have hSl := hi.len_le
  obtain ⟨g0, c0, rfl, _⟩ := h.r0.pos hpos
  obtain ⟨g1, c1, rfl, _⟩ := h.r1.pos hpos
  have hd0 := h.c0
  have hd1 := h.c1
  have HH := hid h
  have HI := hid hi
  have HL := hid hlen
  have HZ := hid (rkTo_zero S s.data.toList)
  have hkz : ((ps.length : Int) == 0) = false := by simp; exact hne
  have HRo := hid hroot
  clear h hi hlen hroot hne hz
  go_enter Yatv.func36, Yatv.ntmps36
  go_wp2
  clear hd0
  go_loopw [5, 6, 7, 8, 9, 10] (fun n r i _ _ _ wr => w = wr ∧ ∃ (a k x : Nat), n = .int .i64 a ∧ r = .int .i64 x ∧ i = .int .i64 k ∧ k ≤ s.size ∧ ps[a]? = some (s.data.toList.take k) ∧ rkTo S s.data.toList k = x) (fun _ _ i _ _ _ _ => s.size - (intOf i).toNat)
  case atStart => exact ⟨rfl, 0, 0, 0, rfl, rfl, rfl, Nat.zero_le _, by simpa using HRo.out, HZ.out⟩
  case round =>
    obtain ⟨rfl, a, k, x, rfl, rfl, rfl, hk1, hpa, hx⟩ := hrel
    have HPA := hid hpa
    have hxl := rkTo_le S s.data.toList k
    rw [hx] at hxl
    have HX := hid hx
    have hal : a < ps.length := (List.getElem?_eq_some_iff.1 hpa).1
    have hw1 := HH.out.r1.cell (i := a) (by omega)
    rw [wx_some hpa] at hw1
    clear hpa hx HZ
    by_cases hlt : k < s.size
    · have hlt' : k < s.data.toList.length := by rw [HL.out]; exact hlt
      have h256 : s[k].toNat < 256 := s[k].toNat_lt
      have hcs : s.data.toList.take (k + 1) = s.data.toList.take k ++ [s[k]] := take_succ_snoc _ _ hlt'
      have hch := HI.out.p.chd HPA.out s[k]
      rw [← hcs] at hch
      have HNX : Hid (∀ L, L ≤ 26 → ¬ (L < 26 ∧ 97 + L < s[k].toNat) → (L = 0 ∨ 97 + (L - 1) < s[k].toNat) → x + mone S (s.data.toList.take k) + wsum S (s.data.toList.take k) L = rkTo S s.data.toList (k + 1)) := by
        intro L h1 h2 h3
        rw [← HX.out]
        exact rk_next HI.out s.data.toList k L hlt' h1 h2 h3
      have HCH := hid hch
      have HCS := hid hcs
      clear hch hcs
      generalize hpp : s.data.toList.take k = p at *
      have HW : Hid (∀ L, wsum S p L ≤ L * S.length) := wsum_le S p
      cases hmb : memb S p
      · have HMO := hid (mone_no hmb)
        rw [hmb] at hw1
        clear hmb
        go_wp2
        go_loopw [6, 8] (fun r l wr => w = wr ∧ ∃ (L y : Nat), l = .int .i64 L ∧ r = .int .i64 y ∧ L ≤ 26 ∧ (L = 0 ∨ 97 + (L - 1) < s[k].toNat) ∧ y = x + mone S p + wsum S p L) (fun _ l _ => 26 - (intOf l).toNat)
        case atStart => exact ⟨rfl, 0, x, rfl, by go_num, by omega, .inl rfl, by rw [HMO.out]; rfl⟩
        case round =>
          obtain ⟨rfl, L, y, rfl, rfl, hL, hq, hy⟩ := hrel
          have hyl : y ≤ 40000000000 := by
            have h1 := HW.out L
            have h2 : L * S.length ≤ 26 * 1000000000 := Nat.mul_le_mul hL (by omega)
            have h3 := HMO.out
            omega
          have HY := hid hy
          clear hy
          by_cases hL1 : L < 26
          · by_cases hL2 : 97 + L < s[k].toNat
            · have hcl := cnt_le S (p ++ [ltr L])
              go_wp2_with (go_at_call 58; refine (weight58 HH.out HI.out hk HPA.out L hL1).mono ?_; rintro e w' ⟨rfl, rfl⟩)
              go_roundw
              case rel => exact ⟨by trivial, L + 1, y + cnt S (p ++ [ltr L]), by go_num, by go_num, by omega, .inr (by simpa using hL2), by rw [HY.out, wsum, Nat.add_assoc (x + mone S p)]⟩
              case measure => simp [intOf]; omega
            · have hnx := HNX.out L hL (by omega) hq
              rw [← HY.out] at hnx
              have HNX2 := hid hnx
              clear hnx
              by_cases hm : s.data.toList.take (k + 1) ∈ ps
              · have hch := HCH.out
                rw [if_pos hm] at hch
                have hm0 := HI.out.p.idx_pos hm (fun e => by have := congrArg List.length e; rw [List.length_take, List.length_nil] at this; omega)
                have HG := hid (getElem?_idxOf hm)
                have HC : Hid (chd (nxt ps) a s[k].toNat = ((ps.idxOf (s.data.toList.take (k + 1)) : Nat) : Int)) := hch
                clear hch hm
                generalize hj : ps.idxOf (s.data.toList.take (k + 1)) = j at *
                have hz' : (((j : Nat) : Int) != 0) = true := by simp; omega
                clear hj
                go_wp2_with (go_at_call 57; refine (child_any HH.out a _ hal hk h256).mono ?_; rw [HC.out]; rintro e w' ⟨rfl, rfl⟩)
                go_roundw
                case rel => exact ⟨by trivial, j, k + 1, y, rfl, rfl, by go_num, by omega, HG.out, HNX2.out.symm⟩
                case measure => simp [intOf]; omega
              · have hch := HCH.out
                rw [if_neg hm] at hch
                have HC : Hid (chd (nxt ps) a s[k].toNat = 0) := hch
                have HM := hid hm
                clear hch hm
                go_wp2_with (go_at_call 57; refine (child_any HH.out a _ hal hk h256).mono ?_; rw [HC.out]; rintro e w' ⟨rfl, rfl⟩)
                go_ret
                rw [HNX2.out, rkTo_stop S _ (k + 1) (fun v hv => by
                  cases e : preB (s.data.toList.take (k + 1)) v
                  · rfl
                  · exact absurd (HI.out.p.prefixes (List.isPrefixOf_iff_prefix.1 e) (HI.out.sub v hv)) HM.out)]
                exact ⟨rfl, rfl⟩
          · have hnx := HNX.out L hL (by omega) hq
            rw [← HY.out] at hnx
            have HNX2 := hid hnx
            clear hnx
            by_cases hm : s.data.toList.take (k + 1) ∈ ps
            · have hch := HCH.out
              rw [if_pos hm] at hch
              have hm0 := HI.out.p.idx_pos hm (fun e => by have := congrArg List.length e; rw [List.length_take, List.length_nil] at this; omega)
              have HG := hid (getElem?_idxOf hm)
              have HC : Hid (chd (nxt ps) a s[k].toNat = ((ps.idxOf (s.data.toList.take (k + 1)) : Nat) : Int)) := hch
              clear hch hm
              generalize hj : ps.idxOf (s.data.toList.take (k + 1)) = j at *
              have hz' : (((j : Nat) : Int) != 0) = true := by simp; omega
              clear hj
              go_wp2_with (go_at_call 57; refine (child_any HH.out a _ hal hk h256).mono ?_; rw [HC.out]; rintro e w' ⟨rfl, rfl⟩)
              go_roundw
              case rel => exact ⟨by trivial, j, k + 1, y, rfl, rfl, by go_num, by omega, HG.out, HNX2.out.symm⟩
              case measure => simp [intOf]; omega
            · have hch := HCH.out
              rw [if_neg hm] at hch
              have HC : Hid (chd (nxt ps) a s[k].toNat = 0) := hch
              have HM := hid hm
              clear hch hm
              go_wp2_with (go_at_call 57; refine (child_any HH.out a _ hal hk h256).mono ?_; rw [HC.out]; rintro e w' ⟨rfl, rfl⟩)
              go_ret
              rw [HNX2.out, rkTo_stop S _ (k + 1) (fun v hv => by
                cases e : preB (s.data.toList.take (k + 1)) v
                · rfl
                · exact absurd (HI.out.p.prefixes (List.isPrefixOf_iff_prefix.1 e) (HI.out.sub v hv)) HM.out)]
              exact ⟨rfl, rfl⟩
      · have HMO := hid (mone_yes hmb)
        rw [hmb] at hw1
        clear hmb
        go_wp2
        go_loopw [6, 8] (fun r l wr => w = wr ∧ ∃ (L y : Nat), l = .int .i64 L ∧ r = .int .i64 y ∧ L ≤ 26 ∧ (L = 0 ∨ 97 + (L - 1) < s[k].toNat) ∧ y = x + mone S p + wsum S p L) (fun _ l _ => 26 - (intOf l).toNat)
        case atStart => exact ⟨rfl, 0, x + 1, rfl, by go_num, by omega, .inl rfl, by rw [HMO.out]; rfl⟩
        case round =>
          obtain ⟨rfl, L, y, rfl, rfl, hL, hq, hy⟩ := hrel
          have hyl : y ≤ 40000000000 := by
            have h1 := HW.out L
            have h2 : L * S.length ≤ 26 * 1000000000 := Nat.mul_le_mul hL (by omega)
            have h3 := HMO.out
            omega
          have HY := hid hy
          clear hy
          by_cases hL1 : L < 26
          · by_cases hL2 : 97 + L < s[k].toNat
            · have hcl := cnt_le S (p ++ [ltr L])
              go_wp2_with (go_at_call 58; refine (weight58 HH.out HI.out hk HPA.out L hL1).mono ?_; rintro e w' ⟨rfl, rfl⟩)
              go_roundw
              case rel => exact ⟨by trivial, L + 1, y + cnt S (p ++ [ltr L]), by go_num, by go_num, by omega, .inr (by simpa using hL2), by rw [HY.out, wsum, Nat.add_assoc (x + mone S p)]⟩
              case measure => simp [intOf]; omega
            · have hnx := HNX.out L hL (by omega) hq
              rw [← HY.out] at hnx
              have HNX2 := hid hnx
              clear hnx
              by_cases hm : s.data.toList.take (k + 1) ∈ ps
              · have hch := HCH.out
                rw [if_pos hm] at hch
                have hm0 := HI.out.p.idx_pos hm (fun e => by have := congrArg List.length e; rw [List.length_take, List.length_nil] at this; omega)
                have HG := hid (getElem?_idxOf hm)
                have HC : Hid (chd (nxt ps) a s[k].toNat = ((ps.idxOf (s.data.toList.take (k + 1)) : Nat) : Int)) := hch
                clear hch hm
                generalize hj : ps.idxOf (s.data.toList.take (k + 1)) = j at *
                have hz' : (((j : Nat) : Int) != 0) = true := by simp; omega
                clear hj
                go_wp2_with (go_at_call 57; refine (child_any HH.out a _ hal hk h256).mono ?_; rw [HC.out]; rintro e w' ⟨rfl, rfl⟩)
                go_roundw
                case rel => exact ⟨by trivial, j, k + 1, y, rfl, rfl, by go_num, by omega, HG.out, HNX2.out.symm⟩
                case measure => simp [intOf]; omega
              · have hch := HCH.out
                rw [if_neg hm] at hch
                have HC : Hid (chd (nxt ps) a s[k].toNat = 0) := hch
                have HM := hid hm
                clear hch hm
                go_wp2_with (go_at_call 57; refine (child_any HH.out a _ hal hk h256).mono ?_; rw [HC.out]; rintro e w' ⟨rfl, rfl⟩)
                go_ret
                rw [HNX2.out, rkTo_stop S _ (k + 1) (fun v hv => by
                  cases e : preB (s.data.toList.take (k + 1)) v
                  · rfl
                  · exact absurd (HI.out.p.prefixes (List.isPrefixOf_iff_prefix.1 e) (HI.out.sub v hv)) HM.out)]
                exact ⟨rfl, rfl⟩
          · have hnx := HNX.out L hL (by omega) hq
            rw [← HY.out] at hnx
            have HNX2 := hid hnx
            clear hnx
            by_cases hm : s.data.toList.take (k + 1) ∈ ps
            · have hch := HCH.out
              rw [if_pos hm] at hch
              have hm0 := HI.out.p.idx_pos hm (fun e => by have := congrArg List.length e; rw [List.length_take, List.length_nil] at this; omega)
              have HG := hid (getElem?_idxOf hm)
              have HC : Hid (chd (nxt ps) a s[k].toNat = ((ps.idxOf (s.data.toList.take (k + 1)) : Nat) : Int)) := hch
              clear hch hm
              generalize hj : ps.idxOf (s.data.toList.take (k + 1)) = j at *
              have hz' : (((j : Nat) : Int) != 0) = true := by simp; omega
              clear hj
              go_wp2_with (go_at_call 57; refine (child_any HH.out a _ hal hk h256).mono ?_; rw [HC.out]; rintro e w' ⟨rfl, rfl⟩)
              go_roundw
              case rel => exact ⟨by trivial, j, k + 1, y, rfl, rfl, by go_num, by omega, HG.out, HNX2.out.symm⟩
              case measure => simp [intOf]; omega
            · have hch := HCH.out
              rw [if_neg hm] at hch
              have HC : Hid (chd (nxt ps) a s[k].toNat = 0) := hch
              have HM := hid hm
              clear hch hm
              go_wp2_with (go_at_call 57; refine (child_any HH.out a _ hal hk h256).mono ?_; rw [HC.out]; rintro e w' ⟨rfl, rfl⟩)
              go_ret
              rw [HNX2.out, rkTo_stop S _ (k + 1) (fun v hv => by
                cases e : preB (s.data.toList.take (k + 1)) v
                · rfl
                · exact absurd (HI.out.p.prefixes (List.isPrefixOf_iff_prefix.1 e) (HI.out.sub v hv)) HM.out)]
              exact ⟨rfl, rfl⟩
    · obtain rfl : k = s.size := by omega
      go_wp2
      go_ret
      rw [← HX.out, ← HL.out, rkTo_full]
      exact ⟨rfl, rfl⟩

end Go.Proofs.Ymwhat
