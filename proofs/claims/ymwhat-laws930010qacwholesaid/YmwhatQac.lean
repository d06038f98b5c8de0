import Derived.Test.YmwhatQacM
set_option linter.unusedVariables false
set_option linter.unusedSimpArgs false
namespace Go.Proofs.Ymwhat
open Go.RowKit

set_option maxHeartbeats 4000000 in
set_option maxRecDepth 4000 in
theorem qac_walk (ao : Option Addr) (len cap : Nat) (D : Nat → Bool) (Wd : Nat → ByteArray) (q : ByteArray) (raw : Bool) (w : World) (hlen : len ≤ 9223372036854775807) (hq : q.size ≤ 9223372036854775807) (hW : ∀ i, i < len → (Wd i).size ≤ 9223372036854775807)
    (hops : OpsIn w ao len (fun i => .bool (D i)) Wd) :
    Calls Yatv.prog 9 #[.slice ao len cap, .string q, .bool raw] w fun e w' => e = .returned (.bool true) ∧ Below w.heap.size w w' := by
  have HO := hid hops
  have HW := hid hW
  clear hops hW
  by_cases h300 : 1024 < len
  · have h300' : (1024 : Int) < (len : Int) := by omega
    go_enter Yatv.func9, Yatv.ntmps9
    go_wp2
    go_ret
    exact ⟨rfl, Below.refl _ _⟩
  have h300' : ¬ (1024 : Int) < (len : Int) := by omega
  by_cases h1024 : 1024 < q.size
  · have h1024' : (1024 : Int) < (q.size : Int) := by omega
    go_enter Yatv.func9, Yatv.ntmps9
    go_wp2
    go_ret
    exact ⟨rfl, Below.refl _ _⟩
  have h1024' : ¬ (1024 : Int) < (q.size : Int) := by omega
  have HS := hid (St.new w)
  obtain ⟨i9, hi9, hz90, hz91, hz92⟩ := info_parts Yatv.info9
  go_enter Yatv.func9, Yatv.ntmps9
  go_wp2
  go_loopw [7] (fun i wr => w = wr ∧ ∃ k : Nat, i = .int .i64 k ∧ k ≤ len ∧ ∀ j, j < k → (Wd j).size ≤ 256) (fun i _ => len - (intOf i).toNat)
  case atStart => exact ⟨rfl, 0, rfl, Nat.zero_le _, fun j hj => absurd hj (Nat.not_lt_zero _)⟩
  case round =>
    obtain ⟨rfl, k, rfl, hk, hb⟩ := hrel
    have HB := hid hb
    clear hb
    by_cases hlt : k < len
    · obtain ⟨b, off, rfl, hbl, hc⟩ := HO.out (by omega)
      have hc1 := (hc k hlt).2
      have hWk := HW.out k hlt
      clear hc
      by_cases hsz : 256 < (Wd k).size
      · have hsz' : (256 : Int) < ((Wd k).size : Int) := by omega
        go_wp2
        go_ret
        exact ⟨rfl, Below.refl _ _⟩
      · have hsz' : ¬ (256 : Int) < ((Wd k).size : Int) := by omega
        go_wp2
        go_roundw
        case rel =>
          refine ⟨by trivial, k + 1, by go_num, by omega, fun j hj => ?_⟩
          by_cases e : j = k
          · subst e; omega
          · exact HB.out j (by omega)
        case measure => simp [intOf]; omega
    · have HB2 : Hid (∀ j, j < len → (Wd j).size ≤ 256) := fun j hj => HB.out j (by omega)
      clear HB
      go_wp2
      go_loopw [9, 10, 11, 12] (fun mo i _ _ wr => ∃ (k : Nat) (ps S : List (List UInt8)), i = .int .i64 k ∧ k ≤ len ∧ St w wr w.heap.size mo ps S S ∧ ps.length ≤ k * 258 ∧ S.length ≤ k) (fun _ i _ _ _ => len - (intOf i).toNat)
      case atStart => exact ⟨0, [], [], rfl, Nat.zero_le _, HS.out, Nat.le_refl _, Nat.le_refl _⟩
      case round =>
        obtain ⟨k', ps, S, rfl, hk', hst, hps, hSl⟩ := hrel
        have HND := hid hst.inv.nodup
        obtain ⟨aom, capm, hmo, hao⟩ := hst.sr.form
        rw [hmo] at hst ⊢
        clear hmo
        have hcm := hst.sr.cap
        have HST := hid hst
        have HAO := hid hao
        clear hst HS hao
        by_cases hlt' : k' < len
        · have hps3 : ps.length ≤ (k' + 1) * 258 := le_step hps
          obtain ⟨b, off, rfl, hbl, hc⟩ := HO.out (by omega)
          have hcs := (HST.out.below.cell (p := ⟨b, off + k' * 2 + 1, none⟩) hbl).trans (hc k' hlt').2
          have hWk := HB2.out k' hlt'
          have HC := hid hc
          clear hc
          go_wp2_with fail
          refine (map47_any (Wd k') wr (by omega)).mono ?_
          rintro e w1 ⟨rfl, hb1⟩
          have HT1 := hid (HST.out.later hb1)
          clear hb1 hcs HST
          have hcb := (HT1.out.below.cell (p := ⟨b, off + k' * 2, none⟩) hbl).trans (HC.out k' hlt').1
          have hml : (bs (mapL 3 (Wd k').data.toList)).size ≤ 256 := by rw [bs_size, mapL_length]; simpa using hWk
          have HV := hid (mapL_valid 3 (by decide) (by decide) (Wd k').data.toList)
          generalize hz : mapL 3 (Wd k').data.toList = z at *
          have hzl : z.length ≤ 256 := by rw [bs_size] at hml; exact hml
          clear hz
          by_cases hmem : z ∈ S
          · have hjl := List.idxOf_lt_length_iff.2 hmem
            obtain ⟨g, rfl⟩ := HAO.out (by omega)
            have HI := hid (idxI_nonneg hmem)
            have HM := hid hmem
            clear hmem
            have hin : ¬ ((S.idxOf z : Nat) : Int) < 0 := by omega
            cases hD : D k'
            · rw [hD] at hcb
              have hSl2 := length_insS S z
              have hps2 := length_insP ps S z
              go_wp2_with (go_at_call 48; refine (index48 HT1.out.sr (by omega) (bs z)).mono ?_; rw [bs_data, HI.out]; rintro e w' ⟨rfl, hw⟩; obtain rfl := hw.symm)
              refine (HT1.out.insert (bs z) (by omega) (by omega) HV.out).mono ?_
              rintro e w2 ⟨rfl, hst2⟩
              rw [bs_data, insS, if_pos HM.out] at hst2
              have HT2 := hid hst2
              clear hst2 hcb
              go_wp2
              go_roundw
              case rel => exact ⟨k' + 1, insP ps S z, S, by go_num, by omega, HT2.out, by omega, by omega⟩
              case measure => simp [intOf]; omega
            · rw [hD] at hcb
              go_wp2_with (go_at_call 48; refine (index48 HT1.out.sr (by omega) (bs z)).mono ?_; rw [bs_data, HI.out]; rintro e w' ⟨rfl, hw⟩; obtain rfl := hw.symm)
              refine (HT1.out.remove (bs z) (by omega) (by omega) (by omega)).mono ?_
              rintro e w2 ⟨rfl, hst2⟩
              rw [bs_data] at hst2
              have HT2 := hid hst2
              clear hst2 hcb
              obtain ⟨A, hA, hnews, s1, s2, s3⟩ := del_ready HT2.out.sr hjl hcm.1
              have HDel := hid (HT2.out.delete hjl)
              rw [eraseIdx_idxOf] at HDel
              have hel : (S.erase z).length ≤ k' + 1 := by have := List.length_erase_le (l := S) (a := z); omega
              generalize hJ : S.idxOf z = J at *
              clear hJ
              have hic : J ≤ capm := by omega
              have hwr : IntKind.i64.wrap ((J : Int) + 1) = (J : Int) + 1 := by rw [IntKind.wrap_i64]; omega
              have hp0 : (0 : Int) ≤ (J : Int) + 1 := by omega
              have hp1 : (J : Int) + 1 ≤ (S.length : Int) := by omega
              have hp2 : ((J : Int) + 1).toNat = J + 1 := by omega
              have hp3 : J + (S.length - (J + 1)) ≤ capm := by omega
              have hp4 : (0 : Int) ≤ (J : Int) := by omega
              have hp5 : (J : Int) ≤ (capm : Int) := by omega
              go_wp2_with fail
              go_region_law (refine step_append_room rfl (.tmp 81) (.tmp 85) 31 rfl 9 i9 1 Yatv.underlying31 hi9 hz91 g 0 J capm (by simp [Act.eval, Act.put]) A (S.length - (J + 1)) (capm - (J + 1)) (movedS S J) (by simp [Act.eval, Act.put]) s1.out hnews.out s2.out hp3 s3.out ?_)
              go_wp2
              go_roundw
              case rel =>
                refine ⟨k' + 1, ps, S.erase z, by go_num, by omega, ?_, hps3, hel⟩
                have := HDel.out
                simpa using this
              case measure => simp [intOf]; omega
          · have HI := hid (idxI_neg hmem)
            have HM := hid hmem
            clear hmem
            cases hD : D k'
            · rw [hD] at hcb
              have hSl2 := length_insS S z
              have hps2 := length_insP ps S z
              go_wp2_with (go_at_call 48; refine (index48 HT1.out.sr (by omega) (bs z)).mono ?_; rw [bs_data, HI.out]; rintro e w' ⟨rfl, hw⟩; obtain rfl := hw.symm)
              refine (HT1.out.insert (bs z) (by omega) (by omega) HV.out).mono ?_
              rintro e w2 ⟨rfl, hst2⟩
              rw [bs_data] at hst2
              have HT2 := hid hst2
              clear hst2 hcb
              go_wp2_with (at_builtin; refine wpList_append_str rfl (.tmp 92) (.tmp 94) rfl Yatv.underlying31 Yatv.info9 _ S rfl (Row.alloc HT2.out.sr _) w2.heap.size z rfl ?hH ?hn ?_)
              case hH => exact heap_alloc_new _ _
              case hn => omega
              intro v' w3 hsr3 hk3 hat3
              have HT3 : Hid (St w w3 w.heap.size v' (insP ps S z) (insS S z) (S ++ [z])) := (HT2.out.later ((Below.refl _ _).alloc (Nat.le_refl _) _)).model hk3 hsr3 (by simpa using hat3)
              clear hsr3 hk3 hat3 HT2
              go_wp2
              go_roundw
              case rel =>
                refine ⟨k' + 1, insP ps S z, insS S z, by go_num, by omega, ?_, by omega, by omega⟩
                have := HT3.out
                have e : insS S z = S ++ [z] := by rw [insS, if_neg HM.out]
                rw [e] at this ⊢
                exact this
              case measure => simp [intOf]; omega
            · rw [hD] at hcb
              go_wp2_with (go_at_call 48; refine (index48 HT1.out.sr (by omega) (bs z)).mono ?_; rw [bs_data, HI.out]; rintro e w' ⟨rfl, hw⟩; obtain rfl := hw.symm)
              refine (HT1.out.remove (bs z) (by omega) (by omega) (by omega)).mono ?_
              rintro e w2 ⟨rfl, hst2⟩
              rw [bs_data, List.erase_of_not_mem HM.out] at hst2
              have HT2 := hid hst2
              clear hst2 hcb
              go_wp2
              go_roundw
              case rel => exact ⟨k' + 1, ps, S, by go_num, by omega, HT2.out, hps3, by omega⟩
              case measure => simp [intOf]; omega
        · have hk2 : k' = len := by omega
          have hpsb : ps.length ≤ 1000000 := by omega
          have hSb : S.length ≤ 1024 := by omega
          clear hps hSl hk' hk hlt hk2
          go_upto_if 98 with (fail)
          go_cut [13] (fun s13 wx => ∃ Q : ByteArray, s13 = .string Q ∧ Q.size ≤ 1024 ∧ St w wx w.heap.size (.slice aom S.length capm) ps S S)
          case first =>
            cases raw
            · go_wp2_with fail
              refine (map47_any q wr (by omega)).mono ?_
              rintro e w1 ⟨rfl, hbm⟩
              have HX := hid (HST.out.later hbm)
              clear hbm
              go_wp2
              go_meet
              case rel => exact ⟨_, rfl, by rw [bs_size, mapL_length]; simpa using h1024, HX.out⟩
            · go_wp2
              go_meet
              case rel => exact ⟨q, rfl, by omega, HST.out⟩
          case rest =>
            rename_i hK
            obtain ⟨Q, rfl, hQs, hstc⟩ := hcut
            exact hK _ _ (qac_tail1 hstc hpsb hSb hQs)

end Go.Proofs.Ymwhat
