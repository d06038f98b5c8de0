import Derived.Test.YmwhatQadT
set_option linter.unusedVariables false
set_option linter.unusedSimpArgs false
namespace Go.Proofs.Ymwhat
open Go.RowKit

set_option maxHeartbeats 4000000 in
set_option maxRecDepth 100000 in
theorem qad_walk (ao : Option Addr) (len cap : Nat) (D : Nat → Int) (Wd : Nat → ByteArray) (q : ByteArray) (raw : Bool) (w : World) (hlen : len ≤ 9223372036854775807) (hq : q.size ≤ 9223372036854775807) (hW : ∀ i, i < len → (Wd i).size ≤ 9223372036854775807)
    (hops : OpsIn w ao len (fun i => .int .u8 (D i)) Wd) (hD0 : ∀ i, i < len → 0 ≤ D i) (hD1 : ∀ i, i < len → D i ≤ 255) :
    Calls Yatv.prog 4 #[.slice ao len cap, .string q, .bool raw] w fun e w' => e = .returned (.bool true) ∧ Below w.heap.size w w' := by
  have HO := hid hops
  have HW := hid hW
  have HD0 := hid hD0
  have HD1 := hid hD1
  clear hops hW hD0 hD1
  by_cases h256 : 256 < len
  · have h256' : (256 : Int) < (len : Int) := by omega
    go_enter Yatv.func4, Yatv.ntmps4
    go_wp2
    go_ret
    exact ⟨rfl, Below.refl _ _⟩
  have h256' : ¬ (256 : Int) < (len : Int) := by omega
  by_cases h1024 : 1024 < q.size
  · have h1024' : (1024 : Int) < (q.size : Int) := by omega
    go_enter Yatv.func4, Yatv.ntmps4
    go_wp2
    go_ret
    exact ⟨rfl, Below.refl _ _⟩
  have h1024' : ¬ (1024 : Int) < (q.size : Int) := by omega
  have HS := hid (St.new w)
  go_enter Yatv.func4, Yatv.ntmps4
  go_wp2
  go_loopw [8, 10, 11, 12, 13, 14, 36] (fun mo _ _ _ _ _ i wr => ∃ (k : Nat) (ps S : List (List UInt8)), i = .int .i64 k ∧ k ≤ len ∧ St w wr w.heap.size mo ps S S ∧ ps.length ≤ k * 66 ∧ S.length ≤ k) (fun _ _ _ _ _ _ i _ => len - (intOf i).toNat)
  case atStart => exact ⟨0, [], [], rfl, Nat.zero_le _, HS.out, Nat.le_refl _, Nat.le_refl _⟩
  case round =>
    obtain ⟨k', ps, S, rfl, hk', hst, hps, hSl⟩ := hrel
    have HND := hid hst.inv.nodup
    obtain ⟨aom, capm, hmo, hao⟩ := hst.sr.form
    rw [hmo] at hst ⊢
    clear hmo
    have hcm := hst.sr.cap
    have HST := hid hst
    have HAO := hid hao
    clear hst HS hao
    by_cases hlt' : k' < len
    · have hps3 : ps.length ≤ (k' + 1) * 66 := le_step hps
      obtain ⟨b, off, rfl, hbl, hc⟩ := HO.out (by omega)
      obtain ⟨d, hdd⟩ : ∃ d : Nat, D k' = d := ⟨(D k').toNat, (Int.toNat_of_nonneg (HD0.out k' hlt')).symm⟩
      have hcb : wr.cell? ⟨b, off + k' * 2, none⟩ = some (.int .u8 d) := by rw [← hdd]; exact (HST.out.below.cell (p := ⟨b, off + k' * 2, none⟩) hbl).trans (hc k' hlt').1
      have hcs := (HST.out.below.cell (p := ⟨b, off + k' * 2 + 1, none⟩) hbl).trans (hc k' hlt').2
      have hWk := HW.out k' hlt'
      have hd1 : d ≤ 255 := by have := HD1.out k' hlt'; omega
      clear hc hdd
      have HX1 := hid (HST.out.later ((Below.refl _ _).alloc (Nat.le_refl _) (.cells #[.int .u8 d, .string (Wd k')] 47)))
      clear HST
      have hm4 : d % 4 < 4 := Nat.mod_lt _ (by decide)
      by_cases h3 : d % 4 = 3
      · have e0 : ((d : Int) % 4 == 0) = false := by rw [beq_eq_false_iff_ne]; omega
        have e1 : ((d : Int) % 4 == 1) = false := by rw [beq_eq_false_iff_ne]; omega
        have e2 : ((d : Int) % 4 == 2) = false := by rw [beq_eq_false_iff_ne]; omega
        have HX2 := HX1
        have hop2 : True := trivial
        clear HX1
        by_cases h64 : 64 < (Wd k').size
        · have h64' : (64 : Int) < ((Wd k').size : Int) := by omega
          obtain ⟨z, hz⟩ : ∃ z, (Wd k').extract 0 64 = z := ⟨_, rfl⟩
          have hzs : z.size ≤ 64 := by rw [← hz, ByteArray.size_extract]; omega
          have hXs : z.size ≤ 64 := by omega
          have hXl : z.data.toList.length ≤ 64 := by simpa using hXs
          cases hval : validB z.data.toList
          · have HVL := hid hval
            clear hval
            go_wp2_with (first | (go_at_call 14; refine (HX2.out.insertBad z (by omega) HVL.out).mono ?_; rintro e w' ⟨rfl, hw⟩; obtain rfl := hw.symm) | (go_at_call 27; refine (valid27 z _ (by omega)).mono ?_; rw [HVL.out]; rintro e w' ⟨rfl, hw⟩; obtain rfl := hw.symm))
            go_roundw
            case rel => exact ⟨k' + 1, ps, S, by go_num, by omega, HX2.out, hps3, by omega⟩
            case measure => simp [intOf]; omega
          · have HV := hid hval
            clear hval
            go_wp2_with fail
            refine (HX2.out.insert z (by omega) (by omega) HV.out).mono ?_
            rintro e w3 ⟨rfl, hst3⟩
            have HT2 := hid hst3
            clear hst3 hop2 HX2
            have hSl2 := length_insS S z.data.toList
            have hps2 := length_insP ps S z.data.toList
            by_cases hmem : z.data.toList ∈ S
            · have hmb : memb S z.data.toList = true := by simp [memb, hmem]
              have HMB := hid hmb
              have HM := hid hmem
              clear hmb hmem
              go_wp2_with (first | (go_at_call 24; refine (contains24 HT2.out.sr (by omega) z).mono ?_; rw [HMB.out]; rintro e w' ⟨rfl, hw⟩; obtain rfl := hw.symm) | (go_at_call 27; refine (valid27 z _ (by omega)).mono ?_; rw [HV.out]; rintro e w' ⟨rfl, hw⟩; obtain rfl := hw.symm))
              go_roundw
              case rel =>
                refine ⟨k' + 1, insP ps S z.data.toList, S, by go_num, by omega, ?_, by omega, by omega⟩
                have := HT2.out
                rw [insS, if_pos HM.out] at this
                exact this
              case measure => simp [intOf]; omega
            · have hmb : memb S z.data.toList = false := by simp [memb, hmem]
              have HMB := hid hmb
              have HM := hid hmem
              clear hmb hmem
              go_wp2_with (first | (go_at_call 24; refine (contains24 HT2.out.sr (by omega) z).mono ?_; rw [HMB.out]; rintro e w' ⟨rfl, hw⟩; obtain rfl := hw.symm) | (go_at_call 27; refine (valid27 z _ (by omega)).mono ?_; rw [HV.out]; rintro e w' ⟨rfl, hw⟩; obtain rfl := hw.symm) | (at_builtin; refine wpList_append_str rfl (.tmp 61) (.tmp 63) rfl Yatv.underlying31 Yatv.info9 _ S rfl (Row.alloc HT2.out.sr _) w3.heap.size z.data.toList rfl ?hH ?hn ?_))
              case hH => rw [heap_alloc_new, bs_of]
              case hn => omega
              intro v' w4 hsr3 hk3 hat3
              have HT3 : Hid (St w w4 w.heap.size v' (insP ps S z.data.toList) (insS S z.data.toList) (S ++ [z.data.toList])) := (HT2.out.later ((Below.refl _ _).alloc (Nat.le_refl _) _)).model hk3 hsr3 (by simpa using hat3)
              clear hsr3 hk3 hat3 HT2
              go_wp2
              go_roundw
              case rel =>
                refine ⟨k' + 1, insP ps S z.data.toList, insS S z.data.toList, by go_num, by omega, ?_, by omega, by omega⟩
                have := HT3.out
                have e : insS S z.data.toList = S ++ [z.data.toList] := by rw [insS, if_neg HM.out]
                rw [e] at this ⊢
                exact this
              case measure => simp [intOf]; omega
        · have h64' : ¬ (64 : Int) < ((Wd k').size : Int) := by omega
          have hXs : (Wd k').size ≤ 64 := by omega
          have hXl : (Wd k').data.toList.length ≤ 64 := by simpa using hXs
          cases hval : validB (Wd k').data.toList
          · have HVL := hid hval
            clear hval
            go_wp2_with (first | (go_at_call 14; refine (HX2.out.insertBad (Wd k') (by omega) HVL.out).mono ?_; rintro e w' ⟨rfl, hw⟩; obtain rfl := hw.symm) | (go_at_call 27; refine (valid27 (Wd k') _ (by omega)).mono ?_; rw [HVL.out]; rintro e w' ⟨rfl, hw⟩; obtain rfl := hw.symm))
            go_roundw
            case rel => exact ⟨k' + 1, ps, S, by go_num, by omega, HX2.out, hps3, by omega⟩
            case measure => simp [intOf]; omega
          · have HV := hid hval
            clear hval
            go_wp2_with fail
            refine (HX2.out.insert (Wd k') (by omega) (by omega) HV.out).mono ?_
            rintro e w3 ⟨rfl, hst3⟩
            have HT2 := hid hst3
            clear hst3 hop2 HX2
            have hSl2 := length_insS S (Wd k').data.toList
            have hps2 := length_insP ps S (Wd k').data.toList
            by_cases hmem : (Wd k').data.toList ∈ S
            · have hmb : memb S (Wd k').data.toList = true := by simp [memb, hmem]
              have HMB := hid hmb
              have HM := hid hmem
              clear hmb hmem
              go_wp2_with (first | (go_at_call 24; refine (contains24 HT2.out.sr (by omega) (Wd k')).mono ?_; rw [HMB.out]; rintro e w' ⟨rfl, hw⟩; obtain rfl := hw.symm) | (go_at_call 27; refine (valid27 (Wd k') _ (by omega)).mono ?_; rw [HV.out]; rintro e w' ⟨rfl, hw⟩; obtain rfl := hw.symm))
              go_roundw
              case rel =>
                refine ⟨k' + 1, insP ps S (Wd k').data.toList, S, by go_num, by omega, ?_, by omega, by omega⟩
                have := HT2.out
                rw [insS, if_pos HM.out] at this
                exact this
              case measure => simp [intOf]; omega
            · have hmb : memb S (Wd k').data.toList = false := by simp [memb, hmem]
              have HMB := hid hmb
              have HM := hid hmem
              clear hmb hmem
              go_wp2_with (first | (go_at_call 24; refine (contains24 HT2.out.sr (by omega) (Wd k')).mono ?_; rw [HMB.out]; rintro e w' ⟨rfl, hw⟩; obtain rfl := hw.symm) | (go_at_call 27; refine (valid27 (Wd k') _ (by omega)).mono ?_; rw [HV.out]; rintro e w' ⟨rfl, hw⟩; obtain rfl := hw.symm) | (at_builtin; refine wpList_append_str rfl (.tmp 61) (.tmp 63) rfl Yatv.underlying31 Yatv.info9 _ S rfl (Row.alloc HT2.out.sr _) w3.heap.size (Wd k').data.toList rfl ?hH ?hn ?_))
              case hH => rw [heap_alloc_new, bs_of]
              case hn => omega
              intro v' w4 hsr3 hk3 hat3
              have HT3 : Hid (St w w4 w.heap.size v' (insP ps S (Wd k').data.toList) (insS S (Wd k').data.toList) (S ++ [(Wd k').data.toList])) := (HT2.out.later ((Below.refl _ _).alloc (Nat.le_refl _) _)).model hk3 hsr3 (by simpa using hat3)
              clear hsr3 hk3 hat3 HT2
              go_wp2
              go_roundw
              case rel =>
                refine ⟨k' + 1, insP ps S (Wd k').data.toList, insS S (Wd k').data.toList, by go_num, by omega, ?_, by omega, by omega⟩
                have := HT3.out
                have e : insS S (Wd k').data.toList = S ++ [(Wd k').data.toList] := by rw [insS, if_neg HM.out]
                rw [e] at this ⊢
                exact this
              case measure => simp [intOf]; omega
      · by_cases h2 : d % 4 = 2
        · have e0 : ((d : Int) % 4 == 0) = false := by rw [beq_eq_false_iff_ne]; omega
          have e1 : ((d : Int) % 4 == 1) = false := by rw [beq_eq_false_iff_ne]; omega
          have e2 : ((d : Int) % 4 == 2) = true := by simp; omega
          go_wp2_with fail
          refine (map23 (Wd k') _ hWk).mono ?_
          rintro e w2 ⟨rfl, hb2⟩
          have HX2 := hid (HX1.out.later hb2)
          have hzl : (mapL 3 ((Wd k').data.toList.take 64)).length ≤ 64 := by rw [mapL_length, List.length_take]; omega
          generalize mapL 3 ((Wd k').data.toList.take 64) = z at *
          clear hb2 HX1
          have hzs : (bs z).size ≤ 64 := by rw [bs_size]; exact hzl
          go_wp2_with fail
          refine (HX2.out.remove (bs z) (by omega) (by omega) (by omega)).mono ?_
          rintro e w3 ⟨rfl, hst3⟩
          rw [bs_data] at hst3
          have HX3 := hid hst3
          clear hst3
          by_cases hmem : z ∈ S
          · have HI := hid (idxI_nonneg hmem)
            have hjl := List.idxOf_lt_length_iff.2 hmem
            obtain ⟨g, rfl⟩ := HAO.out (by omega)
            have hel : (S.erase z).length ≤ k' + 1 := by have := List.length_erase_le (l := S) (a := z); omega
            have HE := hid (eraseIdx_idxOf (S := S) z)
            clear hmem
            have hin : ¬ ((S.idxOf z : Nat) : Int) < 0 := by omega
            generalize S.idxOf z = J at *
            go_wp2_with (first | (go_at_call 25; refine (index25 HX3.out.sr (by omega) (bs z)).mono ?_; rw [bs_data, HI.out]; rintro e w' ⟨rfl, hw⟩; obtain rfl := hw.symm) | (go_at_call 26; refine (delete26 HX3.out.sr hjl (by omega)).mono ?_; rintro e w4 ⟨rfl, hsr4, hk4⟩))
            have HX4 := hid (HX3.out.delete26 hsr4 hk4)
            rw [HE.out] at HX4
            clear hsr4 hk4
            go_wp2
            go_roundw
            case rel => exact ⟨k' + 1, ps, S.erase z, by go_num, by omega, HX4.out, hps3, hel⟩
            case measure => simp [intOf]; omega
          · have HI := hid (idxI_neg hmem)
            rw [List.erase_of_not_mem hmem] at HX3
            clear hmem
            go_wp2_with (go_at_call 25; refine (index25 HX3.out.sr (by omega) (bs z)).mono ?_; rw [bs_data, HI.out]; rintro e w' ⟨rfl, hw⟩; obtain rfl := hw.symm)
            go_roundw
            case rel => exact ⟨k' + 1, ps, S, by go_num, by omega, HX3.out, hps3, by omega⟩
            case measure => simp [intOf]; omega
        · obtain h01 | h01 : d % 4 = 0 ∨ d % 4 = 1 := by omega
          · have e0 : ((d : Int) % 4 == 0) = true := by simp; omega
            go_wp2_with fail
            refine (map23 (Wd k') _ hWk).mono ?_
            rintro e w2 ⟨rfl, hb2⟩
            have HX2 := hid (HX1.out.later hb2)
            have hop2 : True := trivial
            have HV := hid (mapL_valid 3 (by decide) (by decide) ((Wd k').data.toList.take 64))
            have hzl : (mapL 3 ((Wd k').data.toList.take 64)).length ≤ 64 := by rw [mapL_length, List.length_take]; omega
            generalize mapL 3 ((Wd k').data.toList.take 64) = z at *
            clear hb2 HX1
            have hzs : (bs z).size ≤ 64 := by rw [bs_size]; exact hzl
            go_wp2_with fail
            refine (HX2.out.insert (bs z) (by omega) (by omega) HV.out).mono ?_
            rintro e w3 ⟨rfl, hst3⟩
            rw [bs_data] at hst3
            have HT2 := hid hst3
            clear hst3 hop2 HX2
            have hSl2 := length_insS S z
            have hps2 := length_insP ps S z
            by_cases hmem : z ∈ S
            · have hmb : memb S z = true := by simp [memb, hmem]
              have HMB := hid hmb
              have HM := hid hmem
              clear hmb hmem
              go_wp2_with (first | (go_at_call 24; refine (contains24 HT2.out.sr (by omega) (bs z)).mono ?_; rw [bs_data]; rw [HMB.out]; rintro e w' ⟨rfl, hw⟩; obtain rfl := hw.symm) | (go_at_call 27; refine (valid27 (bs z) _ (by omega)).mono ?_; rw [HV.out]; rintro e w' ⟨rfl, hw⟩; obtain rfl := hw.symm))
              go_roundw
              case rel =>
                refine ⟨k' + 1, insP ps S z, S, by go_num, by omega, ?_, by omega, by omega⟩
                have := HT2.out
                rw [insS, if_pos HM.out] at this
                exact this
              case measure => simp [intOf]; omega
            · have hmb : memb S z = false := by simp [memb, hmem]
              have HMB := hid hmb
              have HM := hid hmem
              clear hmb hmem
              go_wp2_with (first | (go_at_call 24; refine (contains24 HT2.out.sr (by omega) (bs z)).mono ?_; rw [bs_data]; rw [HMB.out]; rintro e w' ⟨rfl, hw⟩; obtain rfl := hw.symm) | (go_at_call 27; refine (valid27 (bs z) _ (by omega)).mono ?_; rw [HV.out]; rintro e w' ⟨rfl, hw⟩; obtain rfl := hw.symm) | (at_builtin; refine wpList_append_str rfl (.tmp 78) (.tmp 80) rfl Yatv.underlying31 Yatv.info9 _ S rfl (Row.alloc HT2.out.sr _) w3.heap.size z rfl ?hH ?hn ?_))
              case hH => exact heap_alloc_new _ _
              case hn => omega
              intro v' w4 hsr3 hk3 hat3
              have HT3 : Hid (St w w4 w.heap.size v' (insP ps S z) (insS S z) (S ++ [z])) := (HT2.out.later ((Below.refl _ _).alloc (Nat.le_refl _) _)).model hk3 hsr3 (by simpa using hat3)
              clear hsr3 hk3 hat3 HT2
              go_wp2
              go_roundw
              case rel =>
                refine ⟨k' + 1, insP ps S z, insS S z, by go_num, by omega, ?_, by omega, by omega⟩
                have := HT3.out
                have e : insS S z = S ++ [z] := by rw [insS, if_neg HM.out]
                rw [e] at this ⊢
                exact this
              case measure => simp [intOf]; omega
          · have e0 : ((d : Int) % 4 == 0) = false := by rw [beq_eq_false_iff_ne]; omega
            have e1 : ((d : Int) % 4 == 1) = true := by simp; omega
            go_wp2_with fail
            refine (map23 (Wd k') _ hWk).mono ?_
            rintro e w2 ⟨rfl, hb2⟩
            have HX2 := hid (HX1.out.later hb2)
            have hop2 : True := trivial
            have HV := hid (mapL_valid 3 (by decide) (by decide) ((Wd k').data.toList.take 64))
            have hzl : (mapL 3 ((Wd k').data.toList.take 64)).length ≤ 64 := by rw [mapL_length, List.length_take]; omega
            generalize mapL 3 ((Wd k').data.toList.take 64) = z at *
            clear hb2 HX1
            have hzs : (bs z).size ≤ 64 := by rw [bs_size]; exact hzl
            go_wp2_with fail
            refine (HX2.out.insert (bs z) (by omega) (by omega) HV.out).mono ?_
            rintro e w3 ⟨rfl, hst3⟩
            rw [bs_data] at hst3
            have HT2 := hid hst3
            clear hst3 hop2 HX2
            have hSl2 := length_insS S z
            have hps2 := length_insP ps S z
            by_cases hmem : z ∈ S
            · have hmb : memb S z = true := by simp [memb, hmem]
              have HMB := hid hmb
              have HM := hid hmem
              clear hmb hmem
              go_wp2_with (first | (go_at_call 24; refine (contains24 HT2.out.sr (by omega) (bs z)).mono ?_; rw [bs_data]; rw [HMB.out]; rintro e w' ⟨rfl, hw⟩; obtain rfl := hw.symm) | (go_at_call 27; refine (valid27 (bs z) _ (by omega)).mono ?_; rw [HV.out]; rintro e w' ⟨rfl, hw⟩; obtain rfl := hw.symm))
              go_roundw
              case rel =>
                refine ⟨k' + 1, insP ps S z, S, by go_num, by omega, ?_, by omega, by omega⟩
                have := HT2.out
                rw [insS, if_pos HM.out] at this
                exact this
              case measure => simp [intOf]; omega
            · have hmb : memb S z = false := by simp [memb, hmem]
              have HMB := hid hmb
              have HM := hid hmem
              clear hmb hmem
              go_wp2_with (first | (go_at_call 24; refine (contains24 HT2.out.sr (by omega) (bs z)).mono ?_; rw [bs_data]; rw [HMB.out]; rintro e w' ⟨rfl, hw⟩; obtain rfl := hw.symm) | (go_at_call 27; refine (valid27 (bs z) _ (by omega)).mono ?_; rw [HV.out]; rintro e w' ⟨rfl, hw⟩; obtain rfl := hw.symm) | (at_builtin; refine wpList_append_str rfl (.tmp 78) (.tmp 80) rfl Yatv.underlying31 Yatv.info9 _ S rfl (Row.alloc HT2.out.sr _) w3.heap.size z rfl ?hH ?hn ?_))
              case hH => exact heap_alloc_new _ _
              case hn => omega
              intro v' w4 hsr3 hk3 hat3
              have HT3 : Hid (St w w4 w.heap.size v' (insP ps S z) (insS S z) (S ++ [z])) := (HT2.out.later ((Below.refl _ _).alloc (Nat.le_refl _) _)).model hk3 hsr3 (by simpa using hat3)
              clear hsr3 hk3 hat3 HT2
              go_wp2
              go_roundw
              case rel =>
                refine ⟨k' + 1, insP ps S z, insS S z, by go_num, by omega, ?_, by omega, by omega⟩
                have := HT3.out
                have e : insS S z = S ++ [z] := by rw [insS, if_neg HM.out]
                rw [e] at this ⊢
                exact this
              case measure => simp [intOf]; omega
    · have hpsb : ps.length ≤ 100000 := by omega
      have hSb : S.length ≤ 256 := by omega
      clear hps hSl hk'
      go_upto_if 103 with (fail)
      go_cut [15] (fun s15 wx => ∃ Q : ByteArray, s15 = .string Q ∧ Q.size ≤ 200000 ∧ St w wx w.heap.size (.slice aom S.length capm) ps S S)
      case first =>
        cases raw
        · go_wp2_with fail
          refine (map23 q wr (by omega)).mono ?_
          rintro e w1 ⟨rfl, hbm⟩
          have HX := hid (HST.out.later hbm)
          clear hbm
          go_wp2
          go_meet
          case rel => exact ⟨_, rfl, by rw [bs_size, mapL_length, List.length_take]; omega, HX.out⟩
        · go_wp2
          go_meet
          case rel => exact ⟨q, rfl, by omega, HST.out⟩
      case rest =>
        rename_i hK
        obtain ⟨Q, rfl, hQs, hstc⟩ := hcut
        exact hK _ _ (qad_tail hstc hpsb hSb hQs)

end Go.Proofs.Ymwhat
