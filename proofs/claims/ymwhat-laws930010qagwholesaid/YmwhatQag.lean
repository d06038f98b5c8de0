import Derived.Test.YmwhatQagT
set_option linter.unusedVariables false
set_option linter.unusedSimpArgs false
namespace Go.Proofs.Ymwhat
open Go.RowKit

set_option maxHeartbeats 4000000 in
set_option maxRecDepth 100000 in
theorem qag_walk (ao : Option Addr) (len cap : Nat) (D : Nat → Int) (Wd : Nat → ByteArray) (kq : Int) (w : World) (hlen : len ≤ 9223372036854775807) (hq0 : -9223372036854775808 ≤ kq) (hq1 : kq ≤ 9223372036854775807) (hW : ∀ i, i < len → (Wd i).size ≤ 9223372036854775807)
    (hops : OpsIn w ao len (fun i => .int .u8 (D i)) Wd) (hD0 : ∀ i, i < len → 0 ≤ D i) (hD1 : ∀ i, i < len → D i ≤ 255) :
    Calls Yatv.prog 8 #[.slice ao len cap, .int .i64 kq] w fun e w' => e = .returned (.bool true) ∧ Below w.heap.size w w' := by
  have HO := hid hops
  have HW := hid hW
  have HD0 := hid hD0
  have HD1 := hid hD1
  clear hops hW hD0 hD1
  by_cases h256 : 256 < len
  · have h256' : (256 : Int) < (len : Int) := by omega
    go_enter Yatv.func8, Yatv.ntmps8
    go_wp2
    go_ret
    exact ⟨rfl, Below.refl _ _⟩
  have h256' : ¬ (256 : Int) < (len : Int) := by omega
  go_enter Yatv.func8, Yatv.ntmps8
  go_wp2
  go_loopw [5] (fun i wr => w = wr ∧ ∃ k : Nat, i = .int .i64 k ∧ k ≤ len ∧ ∀ j, j < k → (Wd j).size ≤ 256) (fun i _ => len - (intOf i).toNat)
  case atStart => exact ⟨rfl, 0, rfl, Nat.zero_le _, fun j hj => absurd hj (Nat.not_lt_zero _)⟩
  case round =>
    obtain ⟨rfl, k, rfl, hk, hLb⟩ := hrel
    have HLb := hid hLb
    clear hLb
    by_cases hlt : k < len
    · obtain ⟨b, off, rfl, hbl, hc⟩ := HO.out (by omega)
      have hcs := (hc k hlt).2
      have hLk := HW.out k hlt
      clear hc
      by_cases h3 : 256 < (Wd k).size
      · have h3' : (256 : Int) < ((Wd k).size : Int) := by omega
        go_wp2
        go_ret
        exact ⟨rfl, Below.refl _ _⟩
      · have h3' : ¬ (256 : Int) < ((Wd k).size : Int) := by omega
        go_wp2
        go_roundw
        case rel =>
          refine ⟨by trivial, k + 1, by go_num, by omega, fun j hj => ?_⟩
          by_cases e : j < k
          · exact HLb.out j e
          · obtain rfl : j = k := by omega
            omega
        case measure => simp [intOf]; omega
    · obtain rfl : len = k := by omega
      have HN := hid (St.new w)
      go_wp2
      go_loopw [7, 8, 9, 10, 11, 12] (fun mo i _ _ _ _ wr => ∃ (k : Nat) (ps M : List (List UInt8)), i = .int .i64 k ∧ k ≤ len ∧ St w wr w.heap.size mo ps M M ∧ Srt M ∧ ps.length ≤ k * 258 ∧ M.length ≤ k) (fun _ i _ _ _ _ _ => len - (intOf i).toNat)
      case atStart => exact ⟨0, [], [], rfl, Nat.zero_le _, HN.out, List.Pairwise.nil, Nat.le_refl _, Nat.le_refl _⟩
      case round =>
        obtain ⟨k', ps, M, rfl, hk', hst, hsrt, hps, hMl⟩ := hrel
        obtain ⟨aom, capm, hmo, hao⟩ := hst.sr.form
        rw [hmo] at hst ⊢
        clear hmo
        have hcm := hst.sr.cap
        have HST := hid hst
        have HSR := hid hsrt
        have HAO := hid hao
        clear hst HN hao hsrt
        by_cases hlt' : k' < len
        · have hps3 : ps.length ≤ (k' + 1) * 258 := le_step hps
          obtain ⟨b, off, rfl, hbl, hc⟩ := HO.out (by omega)
          obtain ⟨d, hdd⟩ : ∃ d : Nat, D k' = d := ⟨(D k').toNat, (Int.toNat_of_nonneg (HD0.out k' hlt')).symm⟩
          have hcb : wr.cell? ⟨b, off + k' * 2, none⟩ = some (.int .u8 d) := by rw [← hdd]; exact (HST.out.below.cell (p := ⟨b, off + k' * 2, none⟩) hbl).trans (hc k' hlt').1
          have hcs := (HST.out.below.cell (p := ⟨b, off + k' * 2 + 1, none⟩) hbl).trans (hc k' hlt').2
          have hWk := HLb.out k' hlt'
          have hd1 : d ≤ 255 := by have := HD1.out k' hlt'; omega
          clear hc hdd
          have HX1 := hid (HST.out.later ((Below.refl _ _).alloc (Nat.le_refl _) (.cells #[.int .u8 d, .string (Wd k')] 72)))
          clear HST
          have hm4 : d % 4 < 4 := Nat.mod_lt _ (by decide)
          by_cases h3 : d % 4 = 3
          · have e0 : ((d : Int) % 4 == 0) = false := by rw [beq_eq_false_iff_ne]; omega
            have e1 : ((d : Int) % 4 == 1) = false := by rw [beq_eq_false_iff_ne]; omega
            have e2 : ((d : Int) % 4 == 2) = false := by rw [beq_eq_false_iff_ne]; omega
            have HX2 := HX1
            clear HX1
            have hXl : (Wd k').data.toList.length ≤ 256 := by simpa using hWk
            cases hval : validB (Wd k').data.toList
            · have HVL := hid hval
              clear hval
              go_wp2_with (first | (go_at_call 14; refine (HX2.out.insertBad (Wd k') (by omega) HVL.out).mono ?_; rintro e w' ⟨rfl, hw⟩; obtain rfl := hw.symm) | (go_at_call 44; refine (valid44 (Wd k') _ (by omega)).mono ?_; rw [HVL.out]; rintro e w' ⟨rfl, hw⟩; obtain rfl := hw.symm))
              go_roundw
              case rel => exact ⟨k' + 1, ps, M, by go_num, by omega, HX2.out, HSR.out, hps3, by omega⟩
              case measure => simp [intOf]; omega
            · have HV := hid hval
              clear hval
              go_wp2_with fail
              refine (HX2.out.insert (Wd k') (by omega) (by omega) HV.out).mono ?_
              rintro e w3 ⟨rfl, hst3⟩
              have HT2 := hid hst3
              clear hst3 HX2
              have hps2 := length_insP ps M ((Wd k').data.toList)
              go_wp2_with (first | (go_at_call 44; refine (valid44 (Wd k') _ (by omega)).mono ?_; rw [HV.out]; rintro e w' ⟨rfl, hw⟩; obtain rfl := hw.symm) | (go_at_call 42; refine (ins42 HT2.out.sr (by omega) (Wd k')).mono ?_; rintro e w4 ⟨v', M', rfl, hr4, hI4, hk4, hat4⟩))
              obtain ⟨hst4, hsrt4, hl4⟩ := St.ins42 HT2.out HSR.out hI4 hr4 hk4 hat4
              have HT4 := hid hst4
              have HS4 := hid hsrt4
              clear hr4 hI4 hk4 hat4 hst4 hsrt4 HT2
              go_wp2
              go_roundw
              case rel => exact ⟨k' + 1, insP ps M ((Wd k').data.toList), M', by go_num, by omega, HT4.out, HS4.out, by omega, by omega⟩
              case measure => simp [intOf]; omega
          · by_cases h2 : d % 4 = 2
            · have e0 : ((d : Int) % 4 == 0) = false := by rw [beq_eq_false_iff_ne]; omega
              have e1 : ((d : Int) % 4 == 1) = false := by rw [beq_eq_false_iff_ne]; omega
              have e2 : ((d : Int) % 4 == 2) = true := by simp; omega
              go_wp2_with fail
              refine (map41_any (Wd k') _ (by omega)).mono ?_
              rintro e w2 ⟨rfl, hb2⟩
              have HX2 := hid (HX1.out.later hb2)
              have HV := hid (mapL_valid 3 (by decide) (by decide) ((Wd k').data.toList))
              have hzl : (mapL 3 ((Wd k').data.toList)).length ≤ 256 := by rw [mapL_length]; simpa using hWk
              generalize mapL 3 ((Wd k').data.toList) = z at *
              clear hb2 HX1
              have hzs : (bs z).size ≤ 256 := by rw [bs_size]; exact hzl
              go_wp2_with fail
              refine (HX2.out.remove (bs z) (by omega) (by omega) (by omega)).mono ?_
              rintro e w3 ⟨rfl, hst3⟩
              rw [bs_data] at hst3
              have HX3 := hid hst3
              clear hst3 HX2
              go_wp2_with (go_at_call 43; refine (rem43 HX3.out.sr (by omega) (bs z)).mono ?_; rintro e w4 ⟨v', M', rfl, hr4, hI4, hk4, hat4⟩)
              obtain ⟨hst4, hsrt4, hl4⟩ := St.rem43 HX3.out HSR.out hI4 hr4 hk4 hat4
              have HT4 := hid hst4
              have HS4 := hid hsrt4
              clear hr4 hI4 hk4 hat4 hst4 hsrt4 HX3
              go_wp2
              go_roundw
              case rel => exact ⟨k' + 1, ps, M', by go_num, by omega, HT4.out, HS4.out, hps3, by omega⟩
              case measure => simp [intOf]; omega
            · obtain h01 | h01 : d % 4 = 0 ∨ d % 4 = 1 := by omega
              · have e0 : ((d : Int) % 4 == 0) = true := by simp; omega
                go_wp2_with fail
                refine (map41_any (Wd k') _ (by omega)).mono ?_
                rintro e w2 ⟨rfl, hb2⟩
                have HX2 := hid (HX1.out.later hb2)
                have HV := hid (mapL_valid 3 (by decide) (by decide) ((Wd k').data.toList))
                have hzl : (mapL 3 ((Wd k').data.toList)).length ≤ 256 := by rw [mapL_length]; simpa using hWk
                generalize mapL 3 ((Wd k').data.toList) = z at *
                clear hb2 HX1
                have hzs : (bs z).size ≤ 256 := by rw [bs_size]; exact hzl
                go_wp2_with fail
                refine (HX2.out.insert (bs z) (by omega) (by omega) HV.out).mono ?_
                rintro e w3 ⟨rfl, hst3⟩
                rw [bs_data] at hst3
                have HT2 := hid hst3
                clear hst3 HX2
                have hps2 := length_insP ps M (z)
                go_wp2_with (first | (go_at_call 44; refine (valid44 (bs z) _ (by omega)).mono ?_; rw [HV.out]; rintro e w' ⟨rfl, hw⟩; obtain rfl := hw.symm) | (go_at_call 42; refine (ins42 HT2.out.sr (by omega) (bs z)).mono ?_; rintro e w4 ⟨v', M', rfl, hr4, hI4, hk4, hat4⟩))
                obtain ⟨hst4, hsrt4, hl4⟩ := St.ins42 HT2.out HSR.out hI4 hr4 hk4 hat4
                have HT4 := hid hst4
                have HS4 := hid hsrt4
                clear hr4 hI4 hk4 hat4 hst4 hsrt4 HT2
                go_wp2
                go_roundw
                case rel => exact ⟨k' + 1, insP ps M (z), M', by go_num, by omega, HT4.out, HS4.out, by omega, by omega⟩
                case measure => simp [intOf]; omega
              · have e0 : ((d : Int) % 4 == 0) = false := by rw [beq_eq_false_iff_ne]; omega
                have e1 : ((d : Int) % 4 == 1) = true := by simp; omega
                go_wp2_with fail
                refine (map41_any (Wd k') _ (by omega)).mono ?_
                rintro e w2 ⟨rfl, hb2⟩
                have HX2 := hid (HX1.out.later hb2)
                have HV := hid (mapL_valid 3 (by decide) (by decide) ((Wd k').data.toList))
                have hzl : (mapL 3 ((Wd k').data.toList)).length ≤ 256 := by rw [mapL_length]; simpa using hWk
                generalize mapL 3 ((Wd k').data.toList) = z at *
                clear hb2 HX1
                have hzs : (bs z).size ≤ 256 := by rw [bs_size]; exact hzl
                go_wp2_with fail
                refine (HX2.out.insert (bs z) (by omega) (by omega) HV.out).mono ?_
                rintro e w3 ⟨rfl, hst3⟩
                rw [bs_data] at hst3
                have HT2 := hid hst3
                clear hst3 HX2
                have hps2 := length_insP ps M (z)
                go_wp2_with (first | (go_at_call 44; refine (valid44 (bs z) _ (by omega)).mono ?_; rw [HV.out]; rintro e w' ⟨rfl, hw⟩; obtain rfl := hw.symm) | (go_at_call 42; refine (ins42 HT2.out.sr (by omega) (bs z)).mono ?_; rintro e w4 ⟨v', M', rfl, hr4, hI4, hk4, hat4⟩))
                obtain ⟨hst4, hsrt4, hl4⟩ := St.ins42 HT2.out HSR.out hI4 hr4 hk4 hat4
                have HT4 := hid hst4
                have HS4 := hid hsrt4
                clear hr4 hI4 hk4 hat4 hst4 hsrt4 HT2
                go_wp2
                go_roundw
                case rel => exact ⟨k' + 1, insP ps M (z), M', by go_num, by omega, HT4.out, HS4.out, by omega, by omega⟩
                case measure => simp [intOf]; omega
        · have hpsb : ps.length ≤ 1000000 := by omega
          have hMb : M.length ≤ 256 := by omega
          clear hps hMl hk'
          obtain ⟨v0, v1, v2, hT⟩ := HST.out.cells
          have HT := hid hT
          have hd0 := hT.c0
          have hlt0 := hT.lt
          obtain ⟨ap0, cp0, rfl, _⟩ := hT.r0.form
          obtain ⟨ap1, cp1, rfl, _⟩ := hT.r1.form
          obtain ⟨ap2, cp2, rfl, _⟩ := hT.r2.form
          have hmk := fun wx => run_make26 ps.length (by omega) wx
          clear hT
          go_wp2_with (refine wpList_copy_rows rfl (.tmp 97) (.tmp 101) 26 rfl 38 26 Yatv.underlying26 Yatv.size38 wr.heap.size ps.length rfl (.slice ap0 ps.length cp0) (fun i => .int .i64 (nxt ps (i / 26) (i % 26))) rfl (HT.out.r0.alloc _) (madeCells (Array.replicate 26 (.int .i64 0)) (ps.length * 26)) (heap_alloc_new _ _) (by rw [size_madeCells]) (fun j => rfl) (by unfold maxLen; omega) ?_)
          intro w1 hr1 hk1
          have HB1 : Hid (Below wr.heap.size wr w1) := ((Below.refl _ _).alloc (Nat.le_refl _) _).trans (hk1.below (by simp) (fun x hx e => by omega))
          have HR0 := hid hr1
          have HT1 := hid (HT.out.later HB1.out)
          have hd1 := HT1.out.c1
          have hlt1 := HT1.out.lt
          clear hr1 hk1 hmk hd0
          have hmk := run_make_row' (P := Yatv.prog) 27 4 (.bool false) 1 Yatv.underlying27 Yatv.info4 rfl .i64 .i64 ps.length (by omega) (by omega)
          go_wp2_with (refine wpList_copy_rows rfl (.tmp 109) (.tmp 113) 27 rfl 4 1 Yatv.underlying27 Yatv.size4 w1.heap.size ps.length rfl (.slice ap1 ps.length cp1) (fun i => .bool (wx ps (memb M) i)) rfl (HT1.out.r1.alloc _) (madeCells #[.bool false] ps.length) (heap_alloc_new _ _) (by rw [size_madeCells, Nat.mul_one]) (fun j => rfl) (by unfold maxLen; omega) ?_)
          intro w2 hr2 hk2
          have HB2 : Hid (Below w1.heap.size w1 w2) := ((Below.refl _ _).alloc (Nat.le_refl _) _).trans (hk2.below (by simp) (fun x hx e => by omega))
          have HR0' := hid (HR0.out.later HB2.out)
          have HR1 := hid hr2
          have HT2 := hid (HT1.out.later HB2.out)
          have hd2 := HT2.out.c2
          have hlt2 := HT2.out.lt
          clear hr2 hk2 hmk hd1 HR0
          have hmk := run_make_row' (P := Yatv.prog) 28 3 (.int .i64 0) 8 Yatv.underlying28 Yatv.info3 rfl .i64 .i64 ps.length (by omega) (by omega)
          go_wp2_with (refine wpList_copy_rows rfl (.tmp 121) (.tmp 125) 28 rfl 3 1 Yatv.underlying28 Yatv.size3 w2.heap.size ps.length rfl (.slice ap2 ps.length cp2) (fun i => .int .i64 (bx ps (cnt M) i)) rfl (HT2.out.r2.alloc _) (madeCells #[.int .i64 0] ps.length) (heap_alloc_new _ _) (by rw [size_madeCells, Nat.mul_one]) (fun j => rfl) (by unfold maxLen; omega) ?_)
          intro w3 hr3 hk3
          have HB3 : Hid (Below w2.heap.size w2 w3) := ((Below.refl _ _).alloc (Nat.le_refl _) _).trans (hk3.below (by simp) (fun x hx e => by omega))
          have HCP : Hid (Cp w3 wr.heap.size w1.heap.size w2.heap.size ps M) := ⟨HR0'.out.later HB3.out, HR1.out.later HB3.out, hr3⟩
          have HT3 := hid (HT2.out.later HB3.out)
          have HST3 := hid (((HST.out.later HB1.out).later HB2.out).later HB3.out)
          clear hr3 hk3 hmk hd2 HR0' HR1 HST HT HT1 HT2
          go_wp2_with fail
          refine (select45 HT3.out HST3.out.inv HSR.out (by omega) kq hq0 hq1).mono ?_
          rintro e w4 ⟨rfl, hb4⟩
          have HST4 := hid (HST3.out.later hb4)
          have HCP4 := hid (HCP.out.later hb4)
          clear hb4
          have hne1 : ((selS M kq).toList != (selS M kq).toList) = false := by simp
          have hne2 : (selB M kq != selB M kq) = false := by simp
          go_upto_if 146 with (go_at_call 46; refine (expect46 HST4.out.sr (by omega) kq hq0 hq1).mono ?_; rintro e w' ⟨rfl, hw⟩; obtain rfl := hw.symm)
          go_cut [4] (fun _ wx => wx = w4)
          case first =>
            go_wp2
            go_meet
            case rel => trivial
          case rest =>
            rename_i hK
            obtain rfl := hcut
            exact hK _ _ (qag_tail HST4.out HSR.out HCP4.out hpsb hMb)

end Go.Proofs.Ymwhat
