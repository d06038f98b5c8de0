import Derived.Test.YmwhatSelW
set_option linter.unusedVariables false
set_option linter.unusedSimpArgs false
namespace Go.Proofs.Ymwhat
open Go.RowKit

def lenV : Value → Nat
  | .slice _ n _ => n
  | _ => 0

/-- A byte of p, as it lies in memory. -/
def pcell (p : List UInt8) (i : Nat) : Value := .int .u8 (p.getD i 0).toNat

theorem pcell_snoc_lt (p : List UInt8) (c : UInt8) (i : Nat) (h : i < p.length) : pcell (p ++ [c]) i = pcell p i := by
  unfold pcell
  simp [List.getD, List.getElem?_append_left h]
theorem pcell_snoc_eq (p : List UInt8) (c : UInt8) : pcell (p ++ [c]) p.length = .int .u8 c.toNat := by
  unfold pcell
  simp [List.getD]

theorem pcell_str (p : List UInt8) : strOfNums ((List.range p.length).map fun j => ((p.getD j 0).toNat : Int)) = bs p := by
  unfold strOfNums bs
  congr 2
  apply List.ext_getElem
  · simp
  · intro i h1 h2
    have e : p.getD i 0 = p[i] := by simp [List.getD, List.getElem?_eq_getElem h2]
    simp only [List.getElem_map, List.getElem_range, e]
    simp

theorem wx_memb {ps M : List (List UInt8)} {a : Nat} {p : List UInt8} (h : ps[a]? = some p) : wx ps (memb M) a = memb M p := wx_some h

set_option maxHeartbeats 8000000 in
set_option maxRecDepth 100000 in
theorem select45 {w : World} {tb : Nat} {v0 v1 v2 : Value} {ps M : List (List UInt8)} (h : T w tb v0 v1 v2 ps.length (nxt ps) (wx ps (memb M)) (bx ps (cnt M))) (hi : SInv ps M) (hsr : Srt M) (hk : ps.length ≤ 1000000000) (k : Int) (hk0 : -9223372036854775808 ≤ k) (hk1 : k ≤ 9223372036854775807) :
    Calls Yatv.prog 45 #[.pointer (some ⟨tb,0,none⟩), .int .i64 k] w fun e w' => e = .returned (.tuple #[.string (selS M k), .bool (selB M k)]) ∧ Below w.heap.size w w' := by
  have hML := hi.len_le
  have HH := hid h
  have HI := hid hi
  have HS := hid hsr
  have HC0 := hid (cnt_nil M)
  by_cases h1 : k < 0
  · have hd1 : decide (k < 0) = true := decide_eq_true h1
    have hs := hid (selS_out (M := M) (k := k) (by omega))
    have hb : Hid (selB M k = false) := decide_eq_false (by omega)
    rw [hs.out, hb.out]
    clear h hi hsr
    go_enter Yatv.func45, Yatv.ntmps45
    go_wp2
    go_ret2
    exact ⟨rfl, Below.refl _ _⟩
  have hd1 : decide (k < 0) = false := decide_eq_false h1
  by_cases h2 : (M.length : Int) ≤ k
  · have hs := hid (selS_out (M := M) (k := k) (by omega))
    have hb : Hid (selB M k = false) := decide_eq_false (by omega)
    rw [hs.out, hb.out]
    clear h hi hsr
    go_enter Yatv.func45, Yatv.ntmps45
    go_wp2_with (go_at_call 28; refine (count28 HH.out HI.out hk ⟨#[]⟩ (by decide)).mono ?_; rw [show (⟨#[]⟩ : ByteArray).data.toList = [] from rfl, HC0.out]; rintro e w' ⟨rfl, hw⟩; obtain rfl := hw.symm)
    go_ret2
    exact ⟨rfl, Below.refl _ _⟩
  obtain ⟨m, rfl⟩ : ∃ m : Nat, k = m := ⟨k.toNat, by omega⟩
  have hm : m < M.length := by omega
  have hs := hid (selS_in hm)
  have hb : Hid (selB M m = true) := decide_eq_true (by omega)
  have HA0 := hid (At.start hm)
  rw [hs.out, hb.out]
  generalize M[m] = t at *
  have hpos : 0 < ps.length := by omega
  have hne : ps ≠ [] := fun e => by simp [e] at hpos
  have HRo := hid (hi.p.root hne)
  have HV := hid hi.valid
  obtain ⟨g0, c0, rfl, _⟩ := h.r0.pos hpos
  obtain ⟨g1, c1, rfl, _⟩ := h.r1.pos hpos
  clear h hi hsr hs hb hne
  go_enter Yatv.func45, Yatv.ntmps45
  go_wp2_with (go_at_call 28; refine (count28 HH.out HI.out hk ⟨#[]⟩ (by decide)).mono ?_; rw [show (⟨#[]⟩ : ByteArray).data.toList = [] from rfl, HC0.out]; rintro e w' ⟨rfl, hw⟩; obtain rfl := hw.symm)
  rw [show decide (M.length ≤ m) = false from decide_eq_false (by omega)]
  go_loopw [1, 6, 7, 8] (fun kv n out _ wr => ∃ (a kk g cap : Nat) (p : List UInt8), kv = .int .i64 kk ∧ n = .int .i64 a ∧ out = .slice (some ⟨g, 0, none⟩) p.length cap ∧ ps[a]? = some p ∧ At M p kk t ∧ Row wr 5 1 (.slice (some ⟨g, 0, none⟩) p.length cap) p.length (pcell p) ∧ w.heap.size ≤ g ∧ Below w.heap.size w wr) (fun _ _ out _ _ => ps.length - lenV out)
  case atStart =>
    refine ⟨0, m, w.heap.size, 0, [], rfl, rfl, rfl, HRo.out, HA0.out, ?_, Nat.le_refl _, (Below.refl _ _).alloc (Nat.le_refl _) _⟩
    exact Row.new w 5 1 0 #[] _ (by decide) (by simp) (fun i hi => by omega)
  case round =>
    obtain ⟨a, kk, g, cap, p, rfl, rfl, rfl, hpa, hat, hr, hg, hb⟩ := hrel
    have hal : a < ps.length := (List.getElem?_eq_some_iff.1 hpa).1
    have hkl := hat.klt
    have hpl := HI.out.p.length_lt (List.mem_of_getElem? hpa)
    have HT := hid (HH.out.later hb)
    have hd0 := HT.out.c0
    have hd1 := HT.out.c1
    have hw1 := HT.out.r1.cell (i := a) (by omega)
    rw [wx_memb hpa] at hw1
    have HPA := hid hpa
    have HR := hid hr
    have HB := hid hb
    have HAT := hid hat
    clear hpa hat hr hb HA0
    cases hmb : memb M p
    · have HD := hid (HAT.out.down0 HS.out HV.out hmb)
      rw [hmb] at hw1
      clear hmb
      have hnot : (!false) = true := rfl
      go_wp2
      go_loopw [1, 8] (fun kv l wq => wr = wq ∧ ∃ (L y : Nat), kv = .int .i64 y ∧ l = .int .i64 L ∧ L < 26 ∧ AtL M p L y t) (fun _ l _ => 26 - (intOf l).toNat)
      case atStart => exact ⟨rfl, 0, kk, rfl, rfl, by omega, HD.out⟩
      case round =>
        obtain ⟨rfl, L, y, rfl, rfl, hL, hAL⟩ := hrel
        have hyl := hAL.klt
        have HAL := hid hAL
        clear hAL HD
        have hcl := cnt_le M (p ++ [ltr L])
        by_cases hge : cnt M (p ++ [ltr L]) ≤ y
        · have hge' : ((cnt M (p ++ [ltr L]) : Nat) : Int) ≤ (y : Int) := by omega
          have HN := hid (HAL.out.next HS.out hL hge)
          have hL2 := HN.out.lt HV.out (by omega)
          have HSUB : Hid (((y - cnt M (p ++ [ltr L]) : Nat) : Int) = (y : Int) - (cnt M (p ++ [ltr L]) : Nat)) := by show _ = _; omega
          go_wp2_with (go_at_call 58; refine (weight58 HT.out HI.out hk HPA.out L hL).mono ?_; rintro e w' ⟨rfl, hw⟩; obtain rfl := hw.symm)
          go_roundw
          case rel => exact ⟨by trivial, L + 1, y - cnt M (p ++ [ltr L]), by rw [HSUB.out], by go_num, hL2, HN.out⟩
          case measure => simp [intOf]; omega
        · have hge' : ¬ ((cnt M (p ++ [ltr L]) : Nat) : Int) ≤ (y : Int) := by omega
          have HN := hid (HAL.out.here HS.out hL (by omega))
          have hmem : p ++ [ltr L] ∈ ps := by
            by_cases e : p ++ [ltr L] ∈ ps
            · exact e
            · have := cnt_zero HI.out e
              omega
          have HLT : Hid ((ltr L).toNat = 97 + L) := ltr_toNat L hL
          have hml := List.idxOf_lt_length_iff.2 hmem
          have HG := hid (getElem?_idxOf hmem)
          have HNX : Hid (nxt ps a L = ((ps.idxOf (p ++ [ltr L]) : Nat) : Int)) := by
            show _ = _
            rw [nxt_some HPA.out, show UInt8.ofNat (97 + L) = ltr L from rfl, if_pos hmem]
          clear hmem hge
          go_wp2_with (first | (go_at_call 58; refine (weight58 HT.out HI.out hk HPA.out L hL).mono ?_; rintro e w' ⟨rfl, hw⟩; obtain rfl := hw.symm) | (at_builtin; refine wpList_append_row rfl (.tmp 53) (.tmp 57) 60 rfl 5 _ 1 1 Yatv.underlying60 Yatv.info5 rfl (by decide) _ p.length _ rfl (HR.out.alloc _) ⟨wr.heap.size,0,none⟩ 1 1 rfl (pcell (p ++ [ltr L])) ?nA ?oA ?pA (by decide) ?qA ?rA ?_))
          case nA => intro j hj; refine new_one _ _ _ _ _ j (by simp) hj ?_; rw [show p.length * 1 + j = p.length by omega, pcell_snoc_eq, HLT.out]; rfl
          case oA => intro j; rfl
          case pA => intro i hi; exact pcell_snoc_lt p _ i (by omega)
          case qA => unfold maxLen; omega
          case rA => omega
          intro g' cap' w1 hr1 hk1 hat1
          have hg' : w.heap.size ≤ g' := by
            rcases hat1 with e | e
            · have : g' = g := by simpa [own_slice] using e.symm
              omega
            · have := HB.out.size
              omega
          have HB1 : Hid (Below w.heap.size w w1) := HB.out.trans ((Below.refl _ _).alloc HB.out.size _ |>.trans (hk1.below (by simp; have := HB.out.size; omega) (fun b hb e => by
            have : b = g := by simpa [own_slice] using e.symm
            omega)))
          have HR1 := hid hr1
          have HT1 := hid (HH.out.later HB1.out)
          have hdn := HT1.out.c0
          have hcn := HT1.out.r0.cell (i := a * 26 + L) (by omega)
          rw [show (a * 26 + L) / 26 = a by omega, show (a * 26 + L) % 26 = L by omega, HNX.out] at hcn
          clear hr1 hk1 hat1 hw1 hd0 hd1 HNX
          go_wp2
          go_roundw
          case rel =>
            refine ⟨ps.idxOf (p ++ [ltr L]), y, g', cap', p ++ [ltr L], rfl, rfl, by rw [List.length_append]; rfl, HG.out, HN.out, ?_, hg', HB1.out⟩
            rw [List.length_append]
            exact HR1.out
          case measure => simp [lenV]; omega
    · rw [hmb] at hw1
      by_cases hz : kk = 0
      · subst hz
        have HDN := hid (HAT.out.done HS.out HV.out hmb)
        clear hmb
        have hcv := run_convert_bytes_arg (P := Yatv.prog) wr 60 5 Yatv.underlying60 Yatv.underlying5 g 0 p.length cap ((List.range p.length).map fun j => ((p.getD j 0).toNat : Int)) (by simp) (fun i hi => by
          rw [Nat.zero_add, HR.out.cell (i := i) (by omega)]
          simp [pcell, hi]) 9 Yatv.underlying9
        rw [pcell_str] at hcv
        go_wp2
        go_ret2
        rw [HDN.out]
        exact ⟨rfl, HB.out⟩
      · obtain ⟨k2, hk2⟩ : ∃ k2, kk = k2 + 1 := ⟨kk - 1, by omega⟩
        have HD := hid (At.down HS.out HV.out hmb (show At M p (k2 + 1) t by rw [← hk2]; exact HAT.out))
        have HK2 : Hid ((kk : Int) - 1 = (k2 : Int)) := by show _ = _; omega
        have hkp : (0 : Int) < (kk : Int) := by omega
        clear hmb hk2 hz
        go_wp2
        rw [show decide (0 < kk) = true from decide_eq_true (by omega)]
        go_loopw [1, 8] (fun kv l wq => wr = wq ∧ ∃ (L y : Nat), kv = .int .i64 y ∧ l = .int .i64 L ∧ L < 26 ∧ AtL M p L y t) (fun _ l _ => 26 - (intOf l).toNat)
        case atStart => exact ⟨rfl, 0, k2, by rw [HK2.out], rfl, by omega, HD.out⟩
        case round =>
          obtain ⟨rfl, L, y, rfl, rfl, hL, hAL⟩ := hrel
          have hyl := hAL.klt
          have HAL := hid hAL
          clear hAL HD
          have hcl := cnt_le M (p ++ [ltr L])
          by_cases hge : cnt M (p ++ [ltr L]) ≤ y
          · have hge' : ((cnt M (p ++ [ltr L]) : Nat) : Int) ≤ (y : Int) := by omega
            have HN := hid (HAL.out.next HS.out hL hge)
            have hL2 := HN.out.lt HV.out (by omega)
            have HSUB : Hid (((y - cnt M (p ++ [ltr L]) : Nat) : Int) = (y : Int) - (cnt M (p ++ [ltr L]) : Nat)) := by show _ = _; omega
            go_wp2_with (go_at_call 58; refine (weight58 HT.out HI.out hk HPA.out L hL).mono ?_; rintro e w' ⟨rfl, hw⟩; obtain rfl := hw.symm)
            go_roundw
            case rel => exact ⟨by trivial, L + 1, y - cnt M (p ++ [ltr L]), by rw [HSUB.out], by go_num, hL2, HN.out⟩
            case measure => simp [intOf]; omega
          · have hge' : ¬ ((cnt M (p ++ [ltr L]) : Nat) : Int) ≤ (y : Int) := by omega
            have HN := hid (HAL.out.here HS.out hL (by omega))
            have hmem : p ++ [ltr L] ∈ ps := by
              by_cases e : p ++ [ltr L] ∈ ps
              · exact e
              · have := cnt_zero HI.out e
                omega
            have HLT : Hid ((ltr L).toNat = 97 + L) := ltr_toNat L hL
            have hml := List.idxOf_lt_length_iff.2 hmem
            have HG := hid (getElem?_idxOf hmem)
            have HNX : Hid (nxt ps a L = ((ps.idxOf (p ++ [ltr L]) : Nat) : Int)) := by
              show _ = _
              rw [nxt_some HPA.out, show UInt8.ofNat (97 + L) = ltr L from rfl, if_pos hmem]
            clear hmem hge
            go_wp2_with (first | (go_at_call 58; refine (weight58 HT.out HI.out hk HPA.out L hL).mono ?_; rintro e w' ⟨rfl, hw⟩; obtain rfl := hw.symm) | (at_builtin; refine wpList_append_row rfl (.tmp 53) (.tmp 57) 60 rfl 5 _ 1 1 Yatv.underlying60 Yatv.info5 rfl (by decide) _ p.length _ rfl (HR.out.alloc _) ⟨wr.heap.size,0,none⟩ 1 1 rfl (pcell (p ++ [ltr L])) ?nB ?oB ?pB (by decide) ?qB ?rB ?_))
            case nB => intro j hj; refine new_one _ _ _ _ _ j (by simp) hj ?_; rw [show p.length * 1 + j = p.length by omega, pcell_snoc_eq, HLT.out]; rfl
            case oB => intro j; rfl
            case pB => intro i hi; exact pcell_snoc_lt p _ i (by omega)
            case qB => unfold maxLen; omega
            case rB => omega
            intro g' cap' w1 hr1 hk1 hat1
            have hg' : w.heap.size ≤ g' := by
              rcases hat1 with e | e
              · have : g' = g := by simpa [own_slice] using e.symm
                omega
              · have := HB.out.size
                omega
            have HB1 : Hid (Below w.heap.size w w1) := HB.out.trans ((Below.refl _ _).alloc HB.out.size _ |>.trans (hk1.below (by simp; have := HB.out.size; omega) (fun b hb e => by
              have : b = g := by simpa [own_slice] using e.symm
              omega)))
            have HR1 := hid hr1
            have HT1 := hid (HH.out.later HB1.out)
            have hdn := HT1.out.c0
            have hcn := HT1.out.r0.cell (i := a * 26 + L) (by omega)
            rw [show (a * 26 + L) / 26 = a by omega, show (a * 26 + L) % 26 = L by omega, HNX.out] at hcn
            clear hr1 hk1 hat1 hw1 hd0 hd1 HNX
            go_wp2
            go_roundw
            case rel =>
              refine ⟨ps.idxOf (p ++ [ltr L]), y, g', cap', p ++ [ltr L], rfl, rfl, by rw [List.length_append]; rfl, HG.out, HN.out, ?_, hg', HB1.out⟩
              rw [List.length_append]
              exact HR1.out
            case measure => simp [lenV]; omega

end Go.Proofs.Ymwhat
