import Derived.Test.YmwhatSort
import Derived.BigRegion
import Derived.Deep.DeepCutAuto
set_option linter.unusedVariables false
set_option linter.unusedSimpArgs false
namespace Go.Proofs.Ymwhat
open Go.RowKit

theorem bs_append (a b : List UInt8) : bs a ++ bs b = bs (a ++ b) := by
  apply ByteArray.ext
  rw [ByteArray.data_append]
  simp [bs]

theorem str_one (L : Nat) (hL : L < 26) : strOfNums [97 + (L : Int)] = bs [ltr L] := by
  unfold strOfNums bs
  congr 2

set_option maxHeartbeats 4000000 in
set_option maxRecDepth 100000 in
theorem collect59 {tb : Nat} {v0 v1 v2 : Value} {ps M : List (List UInt8)} (hi : SInv ps M) (hsr : Srt M) (hk : ps.length ≤ 1000000) : ∀ (fuel : Nat) (w : World) (n g cap : Nat) (p : List UInt8) (O : List (List UInt8)), ps.length - p.length ≤ fuel → ps[n]? = some p → T w tb v0 v1 v2 ps.length (nxt ps) (wx ps (memb M)) (bx ps (cnt M)) → SR w (.slice (some ⟨g, 0, none⟩) O.length cap) O → ¬ foot tb v0 v1 v2 g → O.length + (M.filter (preB p)).length ≤ 1000000 →
    Calls Yatv.prog 59 #[.pointer (some ⟨tb,0,none⟩), .int .i64 n, .string (bs p), .slice (some ⟨g, 0, none⟩) O.length cap] w fun e w' => ∃ g' cap', e = .returned (.slice (some ⟨g', 0, none⟩) (O ++ M.filter (preB p)).length cap') ∧ SR w' (.slice (some ⟨g', 0, none⟩) (O ++ M.filter (preB p)).length cap') (O ++ M.filter (preB p)) ∧ Kept (fun b => b = g) w w' ∧ (g' = g ∨ w.heap.size ≤ g')
  | 0, w, n, g, cap, p, O, hf, hp, hT, hO, hg, hl => by
    have := hi.p.length_lt (List.mem_of_getElem? hp)
    omega
  | fuel + 1, w, n, g, cap, p, O, hf, hp, hT, hO, hg, hl => by
    have ih := collect59 (tb := tb) (v0 := v0) (v1 := v1) (v2 := v2) hi hsr hk fuel
    have IH := hid ih
    have HI := hid hi
    have HS := hid hsr
    have HV := hid hi.valid
    have HP := hid hp
    have HT := hid hT
    have HO := hid hO
    have HG := hid hg
    have HF := hid hf
    have HL := hid hl
    have hnl : n < ps.length := (List.getElem?_eq_some_iff.1 hp).1
    have hpl := hi.p.length_lt (List.mem_of_getElem? hp)
    obtain ⟨q0, e0, rfl, _⟩ := hT.r0.pos (by omega)
    obtain ⟨q1, e1, rfl, _⟩ := hT.r1.pos (by omega)
    have hd1 := hT.c1
    have hw1 := hT.r1.cell (i := n) (by omega)
    rw [wx_some hp] at hw1
    have hOl : O.length ≤ 1000000 := by omega
    clear ih hi hsr hp hT hO hg hf hl
    cases hmb : memb M p
    · have HKS0 : Hid (O ++ M.filter (kf p 0) = O ++ M.filter (preB p)) := by
        show _ = _
        have hm' : ¬ p ∈ M := by simpa [memb] using hmb
        rw [kids_split HS.out HV.out p, if_neg hm', List.nil_append]
      rw [hmb] at hw1
      clear hmb
      go_enter Yatv.func59, Yatv.ntmps59
      go_wp2
      clear hd1 hw1
      go_loopw [3, 9] (fun out l wr => ∃ (L g' cap' : Nat) (O' : List (List UInt8)), l = .int .i64 L ∧ L ≤ 26 ∧ out = .slice (some ⟨g', 0, none⟩) O'.length cap' ∧ O' ++ M.filter (kf p L) = O ++ M.filter (preB p) ∧ SR wr (.slice (some ⟨g', 0, none⟩) O'.length cap') O' ∧ Kept (fun b => b = g) w wr ∧ (g' = g ∨ w.heap.size ≤ g')) (fun _ l _ => 26 - (intOf l).toNat)
      case atStart => exact ⟨0, g, cap, O, rfl, by omega, rfl, HKS0.out, HO.out, Kept.refl _ _, .inl rfl⟩
      case round =>
        obtain ⟨L, g', cap', O', rfl, hL, rfl, hEq, hO', hK, hg'⟩ := hrel
        have HEQ := hid hEq
        have HO' := hid hO'
        have HK := hid hK
        have HGG := hid hg'
        have hgn : ¬ foot tb (.slice (some ⟨q0, 0, none⟩) ps.length e0) (.slice (some ⟨q1, 0, none⟩) ps.length e1) v2 g' := by
          rcases hg' with e | e
          · rw [e]; exact HG.out
          · intro h; have := HT.out.foot_lt h; omega
        have HGN := hid hgn
        have HTR := hid (HT.out.kept HK.out (fun b hb e => HG.out (e ▸ hb)))
        have HTOT : Hid (O'.length + (M.filter (kf p L)).length ≤ 1000000) := by
          have h1 := congrArg List.length hEq
          rw [List.length_append, List.length_append] at h1
          have h2 := HL.out
          show _ ≤ _
          omega
        clear hEq hO' hK hgn hg'
        by_cases hL2 : L < 26
        · have hcl := cnt_le M (p ++ [ltr L])
          by_cases hc : cnt M (p ++ [ltr L]) = 0
          · have HKS : Hid (M.filter (kf p (L + 1)) = M.filter (kf p L)) := by
              show _ = _
              have h1 := kids_step HS.out p L hL2
              have h2 : M.filter (preB (p ++ [ltr L])) = [] := List.eq_nil_of_length_eq_zero (by rw [cnt_len]; exact hc)
              rw [h2] at h1
              exact h1.symm
            have hc' : ¬ (0 : Int) < ((cnt M (p ++ [ltr L]) : Nat) : Int) := by omega
            clear hc
            go_wp2_with (go_at_call 58; refine (weight58 HTR.out HI.out (by omega) HP.out L hL2).mono ?_; rintro e w' ⟨rfl, hw⟩; obtain rfl := hw.symm)
            go_roundw
            case rel => exact ⟨L + 1, g', cap', O', by go_num, by omega, rfl, by rw [HKS.out]; exact HEQ.out, HO'.out, HK.out, HGG.out⟩
            case measure => simp [intOf]; omega
          · have hc' : (0 : Int) < ((cnt M (p ++ [ltr L]) : Nat) : Int) := by omega
            have hmem : p ++ [ltr L] ∈ ps := by
              by_cases e : p ++ [ltr L] ∈ ps
              · exact e
              · exact absurd (cnt_zero HI.out e) hc
            have hml := List.idxOf_lt_length_iff.2 hmem
            have HGI := hid (getElem?_idxOf hmem)
            have hd0 := HTR.out.c0
            have hcell := HTR.out.r0.cell (i := n * 26 + L) (by omega)
            rw [show (n * 26 + L) / 26 = n by omega, show (n * 26 + L) % 26 = L by omega, nxt_some HP.out, show UInt8.ofNat (97 + L) = ltr L from rfl, if_pos hmem] at hcell
            clear hmem hc
            generalize ps.idxOf (p ++ [ltr L]) = J at *
            have hi3 : (0 : Int) ≤ (n : Int) := by omega
            have hi4 : (n : Int) < (ps.length : Int) := by omega
            have hwr1 : IntKind.i64.wrap (97 + (L : Int)) = 97 + (L : Int) := by rw [IntKind.wrap_i64]; omega
            have hwr2 : IntKind.u8.wrap (97 + (L : Int)) = 97 + (L : Int) := by
              have h1 : (IntKind.u8.wrap (97 + (L : Int))) = (97 + (L : Int)) % 256 := rfl
              rw [h1]; omega
            have hcv := run_convert_bytes_arg (P := Yatv.prog) (wr.alloc (.cells #[.int .u8 (97 + (L : Int))] 5)).drew 60 5 Yatv.underlying60 Yatv.underlying5 wr.heap.size 0 1 1 [97 + (L : Int)] (by simp) (fun i hi => by
              have hi0 : i = 0 := by simp at hi; exact hi
              subst hi0
              have hh := heap_alloc_new wr (.cells #[.int .u8 (97 + (L : Int))] 5)
              simp [World.cell?, World.drew] at hh ⊢
              simp [hh]) 9 Yatv.underlying9
            rw [str_one L hL2] at hcv
            have hcat := bs_append p [ltr L]
            have hs1 : (bs p).size = p.length := bs_size p
            have hs2 : (bs [ltr L]).size = 1 := bs_size _
            have hsz : ¬ (9223372036854775807 < p.length + 1) := by omega
            have hsz2 : p.length + 1 ≤ 9223372036854775807 := by omega
            have hltb := HTR.out.lt
            have hlq0 := HTR.out.r0.lt rfl
            have HKS := hid (kids_step HS.out p L hL2)
            obtain ⟨R, hR⟩ : ∃ R, O' ++ M.filter (preB (p ++ [ltr L])) = R := ⟨_, rfl⟩
            have hcall := (IH.out (wr.alloc (.cells #[.int .u8 (97 + (L : Int))] 5)).drew J g' cap' (p ++ [ltr L]) O' (by have := HF.out; rw [List.length_append, List.length_singleton]; omega) HGI.out (HTR.out.later ((Below.refl _ _).alloc (Nat.le_refl _) _)).drew (Row.drew (Row.alloc HO'.out _)) HGN.out (by
              have h1 := congrArg List.length HKS.out
              rw [List.length_append] at h1
              have h2 := HTOT.out
              omega))
            rw [hR] at hcall
            have HCALL := hid hcall
            have HRR := hid hR
            clear hcall hR
            have hlw : w.heap.size ≤ wr.heap.size := HK.out.size
            go_wp2_with (go_at_call 58; refine (weight58 HTR.out HI.out (by omega) HP.out L hL2).mono ?_; rintro e w' ⟨rfl, hw⟩; obtain rfl := hw.symm)
            go_region_with (go_at_call 59; refine HCALL.out.mono ?_; rintro e w2 ⟨g2, cap2, rfl, hSR2, hK2, hg2⟩)
            all_goals
              have HSR2 := hid hSR2
              have HK2 : Hid (Kept (fun b => b = g) w w2) := ((HK.out.alloc _).drew).trans' hK2 (fun x hx e => by
                rcases HGG.out with h | h
                · rw [e, h]
                · omega)
              have HG2 : Hid (g2 = g ∨ w.heap.size ≤ g2) := by
                rcases hg2 with h | h
                · rw [h]; exact HGG.out
                · have h9 : wr.heap.size + 1 ≤ g2 := by simpa [World.drew] using h
                  exact .inr (by omega)
              clear hSR2 hK2 hg2
              go_wp2
              go_roundw
              case rel => exact ⟨L + 1, g2, cap2, R, by go_num, by omega, rfl, by rw [← HRR.out, List.append_assoc, ← HKS.out]; exact HEQ.out, HSR2.out, HK2.out, HG2.out⟩
              case measure => simp [intOf]; omega
        · obtain rfl : L = 26 := by omega
          have hOO : O' = O ++ M.filter (preB p) := by
            have := HEQ.out
            rw [kids_end HV.out, List.append_nil] at this
            exact this
          have HOO := hid hOO
          clear hOO
          go_wp2
          go_ret
          rw [← HOO.out]
          exact ⟨g', cap', rfl, HO'.out, HK.out, HGG.out⟩
    · obtain ⟨O1, hO1⟩ : ∃ O1, O ++ [p] = O1 := ⟨_, rfl⟩
      have hO1p : 0 < O1.length := by rw [← hO1]; simp
      have HO1 := hid hO1
      clear hO1
      have HKS0 : Hid (O1 ++ M.filter (kf p 0) = O ++ M.filter (preB p)) := by
        show _ = _
        have hm' : p ∈ M := by simpa [memb] using hmb
        rw [kids_split HS.out HV.out p, if_pos hm', ← HO1.out, List.append_assoc]
      rw [hmb] at hw1
      clear hmb
      go_enter Yatv.func59, Yatv.ntmps59
      go_wp2_with (at_builtin; refine wpList_append_str rfl (.tmp 17) (.tmp 19) rfl Yatv.underlying31 Yatv.info9 _ O rfl (Row.alloc HO.out _) w.heap.size p rfl ?hH (by omega) ?_)
      case hH => exact heap_alloc_new _ _
      intro vv w1 hsr1 hk1 hat1
      rw [HO1.out] at hsr1
      obtain ⟨ga, capa, rfl, _, _⟩ := Row.pos hsr1 hO1p
      have HSR1 := hid hsr1
      have HK1 : Hid (Kept (fun b => b = g) w w1) := ((Kept.refl _ w).alloc _).trans (hk1.mono (fun x _ e => by simpa [own_slice] using e.symm))
      have HG1 : Hid (ga = g ∨ w.heap.size ≤ ga) := by
        rcases hat1 ga (by simp [own_slice]) with h | h
        · exact .inl (by simpa [own_slice] using h.symm)
        · exact .inr (by omega)
      clear hsr1 hk1 hat1
      go_wp2
      clear hd1 hw1
      go_loopw [3, 9] (fun out l wr => ∃ (L g' cap' : Nat) (O' : List (List UInt8)), l = .int .i64 L ∧ L ≤ 26 ∧ out = .slice (some ⟨g', 0, none⟩) O'.length cap' ∧ O' ++ M.filter (kf p L) = O ++ M.filter (preB p) ∧ SR wr (.slice (some ⟨g', 0, none⟩) O'.length cap') O' ∧ Kept (fun b => b = g) w wr ∧ (g' = g ∨ w.heap.size ≤ g')) (fun _ l _ => 26 - (intOf l).toNat)
      case atStart => exact ⟨0, ga, capa, O1, rfl, by omega, rfl, HKS0.out, HSR1.out, HK1.out, HG1.out⟩
      case round =>
        obtain ⟨L, g', cap', O', rfl, hL, rfl, hEq, hO', hK, hg'⟩ := hrel
        have HEQ := hid hEq
        have HO' := hid hO'
        have HK := hid hK
        have HGG := hid hg'
        have hgn : ¬ foot tb (.slice (some ⟨q0, 0, none⟩) ps.length e0) (.slice (some ⟨q1, 0, none⟩) ps.length e1) v2 g' := by
          rcases hg' with e | e
          · rw [e]; exact HG.out
          · intro h; have := HT.out.foot_lt h; omega
        have HGN := hid hgn
        have HTR := hid (HT.out.kept HK.out (fun b hb e => HG.out (e ▸ hb)))
        have HTOT : Hid (O'.length + (M.filter (kf p L)).length ≤ 1000000) := by
          have h1 := congrArg List.length hEq
          rw [List.length_append, List.length_append] at h1
          have h2 := HL.out
          show _ ≤ _
          omega
        clear hEq hO' hK hgn hg'
        by_cases hL2 : L < 26
        · have hcl := cnt_le M (p ++ [ltr L])
          by_cases hc : cnt M (p ++ [ltr L]) = 0
          · have HKS : Hid (M.filter (kf p (L + 1)) = M.filter (kf p L)) := by
              show _ = _
              have h1 := kids_step HS.out p L hL2
              have h2 : M.filter (preB (p ++ [ltr L])) = [] := List.eq_nil_of_length_eq_zero (by rw [cnt_len]; exact hc)
              rw [h2] at h1
              exact h1.symm
            have hc' : ¬ (0 : Int) < ((cnt M (p ++ [ltr L]) : Nat) : Int) := by omega
            clear hc
            go_wp2_with (go_at_call 58; refine (weight58 HTR.out HI.out (by omega) HP.out L hL2).mono ?_; rintro e w' ⟨rfl, hw⟩; obtain rfl := hw.symm)
            go_roundw
            case rel => exact ⟨L + 1, g', cap', O', by go_num, by omega, rfl, by rw [HKS.out]; exact HEQ.out, HO'.out, HK.out, HGG.out⟩
            case measure => simp [intOf]; omega
          · have hc' : (0 : Int) < ((cnt M (p ++ [ltr L]) : Nat) : Int) := by omega
            have hmem : p ++ [ltr L] ∈ ps := by
              by_cases e : p ++ [ltr L] ∈ ps
              · exact e
              · exact absurd (cnt_zero HI.out e) hc
            have hml := List.idxOf_lt_length_iff.2 hmem
            have HGI := hid (getElem?_idxOf hmem)
            have hd0 := HTR.out.c0
            have hcell := HTR.out.r0.cell (i := n * 26 + L) (by omega)
            rw [show (n * 26 + L) / 26 = n by omega, show (n * 26 + L) % 26 = L by omega, nxt_some HP.out, show UInt8.ofNat (97 + L) = ltr L from rfl, if_pos hmem] at hcell
            clear hmem hc
            generalize ps.idxOf (p ++ [ltr L]) = J at *
            have hi3 : (0 : Int) ≤ (n : Int) := by omega
            have hi4 : (n : Int) < (ps.length : Int) := by omega
            have hwr1 : IntKind.i64.wrap (97 + (L : Int)) = 97 + (L : Int) := by rw [IntKind.wrap_i64]; omega
            have hwr2 : IntKind.u8.wrap (97 + (L : Int)) = 97 + (L : Int) := by
              have h1 : (IntKind.u8.wrap (97 + (L : Int))) = (97 + (L : Int)) % 256 := rfl
              rw [h1]; omega
            have hcv := run_convert_bytes_arg (P := Yatv.prog) (wr.alloc (.cells #[.int .u8 (97 + (L : Int))] 5)).drew 60 5 Yatv.underlying60 Yatv.underlying5 wr.heap.size 0 1 1 [97 + (L : Int)] (by simp) (fun i hi => by
              have hi0 : i = 0 := by simp at hi; exact hi
              subst hi0
              have hh := heap_alloc_new wr (.cells #[.int .u8 (97 + (L : Int))] 5)
              simp [World.cell?, World.drew] at hh ⊢
              simp [hh]) 9 Yatv.underlying9
            rw [str_one L hL2] at hcv
            have hcat := bs_append p [ltr L]
            have hs1 : (bs p).size = p.length := bs_size p
            have hs2 : (bs [ltr L]).size = 1 := bs_size _
            have hsz : ¬ (9223372036854775807 < p.length + 1) := by omega
            have hsz2 : p.length + 1 ≤ 9223372036854775807 := by omega
            have hltb := HTR.out.lt
            have hlq0 := HTR.out.r0.lt rfl
            have HKS := hid (kids_step HS.out p L hL2)
            obtain ⟨R, hR⟩ : ∃ R, O' ++ M.filter (preB (p ++ [ltr L])) = R := ⟨_, rfl⟩
            have hcall := (IH.out (wr.alloc (.cells #[.int .u8 (97 + (L : Int))] 5)).drew J g' cap' (p ++ [ltr L]) O' (by have := HF.out; rw [List.length_append, List.length_singleton]; omega) HGI.out (HTR.out.later ((Below.refl _ _).alloc (Nat.le_refl _) _)).drew (Row.drew (Row.alloc HO'.out _)) HGN.out (by
              have h1 := congrArg List.length HKS.out
              rw [List.length_append] at h1
              have h2 := HTOT.out
              omega))
            rw [hR] at hcall
            have HCALL := hid hcall
            have HRR := hid hR
            clear hcall hR
            have hlw : w.heap.size ≤ wr.heap.size := HK.out.size
            go_wp2_with (go_at_call 58; refine (weight58 HTR.out HI.out (by omega) HP.out L hL2).mono ?_; rintro e w' ⟨rfl, hw⟩; obtain rfl := hw.symm)
            go_region_with (go_at_call 59; refine HCALL.out.mono ?_; rintro e w2 ⟨g2, cap2, rfl, hSR2, hK2, hg2⟩)
            all_goals
              have HSR2 := hid hSR2
              have HK2 : Hid (Kept (fun b => b = g) w w2) := ((HK.out.alloc _).drew).trans' hK2 (fun x hx e => by
                rcases HGG.out with h | h
                · rw [e, h]
                · omega)
              have HG2 : Hid (g2 = g ∨ w.heap.size ≤ g2) := by
                rcases hg2 with h | h
                · rw [h]; exact HGG.out
                · have h9 : wr.heap.size + 1 ≤ g2 := by simpa [World.drew] using h
                  exact .inr (by omega)
              clear hSR2 hK2 hg2
              go_wp2
              go_roundw
              case rel => exact ⟨L + 1, g2, cap2, R, by go_num, by omega, rfl, by rw [← HRR.out, List.append_assoc, ← HKS.out]; exact HEQ.out, HSR2.out, HK2.out, HG2.out⟩
              case measure => simp [intOf]; omega
        · obtain rfl : L = 26 := by omega
          have hOO : O' = O ++ M.filter (preB p) := by
            have := HEQ.out
            rw [kids_end HV.out, List.append_nil] at this
            exact this
          have HOO := hid hOO
          clear hOO
          go_wp2
          go_ret
          rw [← HOO.out]
          exact ⟨g', cap', rfl, HO'.out, HK.out, HGG.out⟩

set_option maxHeartbeats 1000000 in
theorem withPrefix_no {w : World} {tb : Nat} {v0 v1 v2 : Value} {ps S : List (List UInt8)} (h : T w tb v0 v1 v2 ps.length (nxt ps) (wx ps (memb S)) (bx ps (cnt S))) (hi : SInv ps S) (hk : ps.length ≤ 1000000) (s : ByteArray) (hs : s.size ≤ 1000000) (hm : s.data.toList ∉ ps) :
    Calls Yatv.prog 38 #[.pointer (some ⟨tb,0,none⟩), .string s] w fun e w' => e = .returned (.slice (some ⟨w.heap.size, 0, none⟩) 0 0) ∧ w' = w.alloc (.cells #[] 9) := by
  have HH := hid h
  have HI := hid hi
  have HM := hid hm
  clear h hi hm
  go_enter Yatv.func38, Yatv.ntmps38
  go_wp2_with (go_at_call 55; refine (find_no HH.out HI.out.p (by omega) s (by omega) HM.out).mono ?_; rintro e w' ⟨rfl, hw⟩; obtain rfl := hw.symm)
  go_ret
  exact ⟨rfl, rfl⟩

end Go.Proofs.Ymwhat
