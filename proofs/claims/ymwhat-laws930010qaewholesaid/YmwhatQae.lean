import Derived.Test.YmwhatWord
import Derived.Test.YmwhatQaeT
import Derived.Deep.DeepCutAuto
set_option linter.unusedVariables false
set_option linter.unusedSimpArgs false
namespace Go.Proofs.Ymwhat
open Go.RowKit

set_option maxHeartbeats 4000000 in
set_option maxRecDepth 100000 in
theorem qae_walk (ao : Option Addr) (len cap : Nat) (D : Nat → Int) (Wd : Nat → ByteArray) (q : ByteArray) (pick : Int) (w : World) (hlen : len ≤ 9223372036854775807) (hq : q.size ≤ 9223372036854775807) (hW : ∀ i, i < len → (Wd i).size ≤ 9223372036854775807)
    (hops : OpsIn w ao len (fun i => .int .u8 (D i)) Wd) (hD0 : ∀ i, i < len → 0 ≤ D i) (hD1 : ∀ i, i < len → D i ≤ 255) (hp0 : 0 ≤ pick) (hp1 : pick ≤ 255) :
    Calls Yatv.prog 5 #[.slice ao len cap, .string q, .int .u8 pick] w fun e w' => e = .returned (.bool true) ∧ Below w.heap.size w w' := by
  have HO := hid hops
  have HW := hid hW
  have HD0 := hid hD0
  have HD1 := hid hD1
  clear hops hW hD0 hD1
  by_cases h256 : 256 < len
  · have h256' : (256 : Int) < (len : Int) := by omega
    go_enter Yatv.func5, Yatv.ntmps5
    go_wp2
    go_ret
    exact ⟨rfl, Below.refl _ _⟩
  have h256' : ¬ (256 : Int) < (len : Int) := by omega
  by_cases h1024 : 1024 < q.size
  · have h1024' : (1024 : Int) < (q.size : Int) := by omega
    go_enter Yatv.func5, Yatv.ntmps5
    go_wp2
    go_ret
    exact ⟨rfl, Below.refl _ _⟩
  have h1024' : ¬ (1024 : Int) < (q.size : Int) := by omega
  have HS := hid (St.new w)
  go_enter Yatv.func5, Yatv.ntmps5
  go_wp2
  go_loopw [8, 9, 10, 11] (fun mo i _ _ wr => ∃ (k : Nat) (ps S : List (List UInt8)), i = .int .i64 k ∧ k ≤ len ∧ St w wr w.heap.size mo ps S S ∧ ps.length ≤ k * 66 ∧ S.length ≤ k) (fun _ i _ _ _ => len - (intOf i).toNat)
  case atStart => exact ⟨0, [], [], rfl, Nat.zero_le _, HS.out, Nat.le_refl _, Nat.le_refl _⟩
  case round =>
    obtain ⟨k', ps, S, rfl, hk', hst, hps, hSl⟩ := hrel
    have HND := hid hst.inv.nodup
    obtain ⟨aom, capm, hmo, hao⟩ := hst.sr.form
    rw [hmo] at hst ⊢
    clear hmo
    have hcm := hst.sr.cap
    have HST := hid hst
    have HAO := hid hao
    clear hst HS hao
    by_cases hlt' : k' < len
    · have hps3 : ps.length ≤ (k' + 1) * 66 := le_step hps
      obtain ⟨b, off, rfl, hbl, hc⟩ := HO.out (by omega)
      obtain ⟨d, hdd⟩ : ∃ d : Nat, D k' = d := ⟨(D k').toNat, (Int.toNat_of_nonneg (HD0.out k' hlt')).symm⟩
      have hcb : wr.cell? ⟨b, off + k' * 2, none⟩ = some (.int .u8 d) := by rw [← hdd]; exact (HST.out.below.cell (p := ⟨b, off + k' * 2, none⟩) hbl).trans (hc k' hlt').1
      have hcs := (HST.out.below.cell (p := ⟨b, off + k' * 2 + 1, none⟩) hbl).trans (hc k' hlt').2
      have hWk := HW.out k' hlt'
      have hd1 : d ≤ 255 := by have := HD1.out k' hlt'; omega
      clear hc hdd
      have HX1 := hid (HST.out.later ((Below.refl _ _).alloc (Nat.le_refl _) (.cells #[.int .u8 d, .string (Wd k')] 54)))
      have hopc : (wr.alloc (.cells #[.int .u8 (d : Int), .string (Wd k')] 54)).cell? ⟨wr.heap.size, 0, none⟩ = some (.int .u8 d) := by rw [cell_of_row _ _ _ _ _ _ (heap_alloc_new wr _)]; rfl
      go_wp2_with fail
      refine (word30 (Wd k') _ hWk).mono ?_
      rintro e w2 ⟨rfl, hb2⟩
      have HX2 := hid (HX1.out.later hb2)
      have hop2 : w2.cell? ⟨wr.heap.size, 0, none⟩ = some (.int .u8 d) := (hb2.cell (p := ⟨wr.heap.size, 0, none⟩) (by simp)).trans hopc
      have HV := hid (mapL_valid 3 (by decide) (by decide) ((Wd k').data.toList.take 64))
      have hzl : (mapL 3 ((Wd k').data.toList.take 64)).length ≤ 64 := by rw [mapL_length, List.length_take]; omega
      generalize mapL 3 ((Wd k').data.toList.take 64) = z at *
      clear hb2 hopc hcb hcs HX1 HST
      have hzs : (bs z).size ≤ 64 := by rw [bs_size]; exact hzl
      by_cases h32 : d % 3 = 2
      · have h32' : ((d : Int) % 3 == 2) = true := by simp; omega
        by_cases hpk : 0 < S.length ∧ d / 3 % 2 = 0
        · obtain ⟨hp1, hp2⟩ := hpk
          have hp1' : (0 : Int) < (S.length : Int) := by omega
          have hp2' : ((d : Int) / 3 % 2 == 0) = true := by simp; omega
          have hJ : d / 6 % S.length < S.length := Nat.mod_lt _ hp1
          have hJc : ((d : Int) / 6 % (S.length : Int)) = ((d / 6 % S.length : Nat) : Int) := by simp
          have hj0 : (0 : Int) ≤ (d : Int) / 6 % (S.length : Int) := by rw [hJc]; omega
          have hj1 : (d : Int) / 6 % (S.length : Int) < (S.length : Int) := by rw [hJc]; omega
          obtain ⟨g, rfl⟩ := HAO.out hp1
          obtain ⟨x, hx0, ex⟩ := HX2.out.sr.cell _ hJ
          have hx : w2.cell? ⟨g, ((d : Int) / 6 % (S.length : Int)).toNat, none⟩ = some (.string x) := by rw [hJc, Int.toNat_natCast]; exact hx0
          clear hJc
          have hxs : x.size ≤ 1000000 := by
            have h1 := HX2.out.inv.p.length_lt (HX2.out.inv.sub _ (ex ▸ List.getElem_mem hJ))
            have h2 : x.data.toList.length = x.size := by simp
            omega
          clear ex
          go_wp2_with fail
          refine (HX2.out.remove x (by omega) (by omega) (by omega)).mono ?_
          rintro e w3 ⟨rfl, hst3⟩
          have HX3 := hid hst3
          clear hst3 hop2
          go_wp2_with fail
          refine (drop31 HX3.out.sr (by omega) x).mono ?_
          rintro e w4 ⟨v', rfl, hsr4, hb4, ho4⟩
          have HX4 := hid (HX3.out.remodel hb4 hsr4 ho4)
          clear hsr4 hb4 ho4
          have hel : (S.erase x.data.toList).length ≤ k' + 1 := by have := List.length_erase_le (l := S) (a := x.data.toList); omega
          go_wp2
          go_roundw
          case rel =>
            refine ⟨k' + 1, ps, S.erase x.data.toList, by go_num, by omega, ?_, hps3, hel⟩
            have := HX4.out
            rw [filter_erase HND.out] at this
            exact this
          case measure => simp [intOf]; omega
        · by_cases hS0 : 0 < S.length
          · have hp1' : (0 : Int) < (S.length : Int) := by omega
            have hp4 : d / 3 % 2 = 1 := by
              have : ¬ d / 3 % 2 = 0 := fun e => hpk ⟨hS0, e⟩
              omega
            have hp2' : ((d : Int) / 3 % 2 == 0) = false := by rw [beq_eq_false_iff_ne]; omega
            go_wp2_with fail
            refine (HX2.out.remove (bs z) (by omega) (by omega) (by omega)).mono ?_
            rintro e w3 ⟨rfl, hst3⟩
            have HX3 := hid hst3
            clear hst3 hop2
            go_wp2_with fail
            refine (drop31 HX3.out.sr (by omega) (bs z)).mono ?_
            rintro e w4 ⟨v', rfl, hsr4, hb4, ho4⟩
            have HX4 := hid (HX3.out.remodel hb4 hsr4 ho4)
            clear hsr4 hb4 ho4
            have hel : (S.erase (bs z).data.toList).length ≤ k' + 1 := by have := List.length_erase_le (l := S) (a := (bs z).data.toList); omega
            go_wp2
            go_roundw
            case rel =>
              refine ⟨k' + 1, ps, S.erase (bs z).data.toList, by go_num, by omega, ?_, hps3, hel⟩
              have := HX4.out
              rw [filter_erase HND.out] at this
              exact this
            case measure => simp [intOf]; omega
          · have hp1' : ¬ (0 : Int) < (S.length : Int) := by omega
            have hp3' : decide ((0 : Int) < (S.length : Int)) = false := decide_eq_false (by omega)
            go_wp2_with fail
            refine (HX2.out.remove (bs z) (by omega) (by omega) (by omega)).mono ?_
            rintro e w3 ⟨rfl, hst3⟩
            have HX3 := hid hst3
            clear hst3 hop2
            go_wp2_with fail
            refine (drop31 HX3.out.sr (by omega) (bs z)).mono ?_
            rintro e w4 ⟨v', rfl, hsr4, hb4, ho4⟩
            have HX4 := hid (HX3.out.remodel hb4 hsr4 ho4)
            clear hsr4 hb4 ho4
            have hel : (S.erase (bs z).data.toList).length ≤ k' + 1 := by have := List.length_erase_le (l := S) (a := (bs z).data.toList); omega
            go_wp2
            go_roundw
            case rel =>
              refine ⟨k' + 1, ps, S.erase (bs z).data.toList, by go_num, by omega, ?_, hps3, hel⟩
              have := HX4.out
              rw [filter_erase HND.out] at this
              exact this
            case measure => simp [intOf]; omega
      · have h32' : ((d : Int) % 3 == 2) = false := by simp; omega
        go_wp2_with fail
        refine (HX2.out.insert (bs z) (by omega) (by omega) HV.out).mono ?_
        rintro e w3 ⟨rfl, hst3⟩
        rw [bs_data] at hst3
        have HT2 := hid hst3
        clear hst3 hop2 HX2
        have hSl2 := length_insS S z
        have hps2 := length_insP ps S z
        by_cases hmem : z ∈ S
        · have hmb : memb S z = true := by simp [memb, hmem]
          have HMB := hid hmb
          have HM := hid hmem
          clear hmb hmem
          go_wp2_with (go_at_call 32; refine (in32 HT2.out.sr (by omega) (bs z)).mono ?_; rw [bs_data, HMB.out]; rintro e w' ⟨rfl, rfl⟩)
          go_roundw
          case rel =>
            refine ⟨k' + 1, insP ps S z, S, by go_num, by omega, ?_, by omega, by omega⟩
            have := HT2.out
            rw [insS, if_pos HM.out] at this
            exact this
          case measure => simp [intOf]; omega
        · have hmb : memb S z = false := by simp [memb, hmem]
          have HMB := hid hmb
          have HM := hid hmem
          clear hmb hmem
          go_wp2_with (first | (go_at_call 32; refine (in32 HT2.out.sr (by omega) (bs z)).mono ?_; rw [bs_data, HMB.out]; rintro e w' ⟨rfl, hw⟩; obtain rfl := hw.symm) | (at_builtin; refine wpList_append_str rfl (.tmp 82) (.tmp 84) rfl Yatv.underlying31 Yatv.info9 _ S rfl (Row.alloc HT2.out.sr _) w3.heap.size z rfl ?hH ?hn ?_))
          case hH => exact heap_alloc_new _ _
          case hn => omega
          intro v' w4 hsr3 hk3 hat3
          have HT3 : Hid (St w w4 w.heap.size v' (insP ps S z) (insS S z) (S ++ [z])) := (HT2.out.later ((Below.refl _ _).alloc (Nat.le_refl _) _)).model hk3 hsr3 (by simpa using hat3)
          clear hsr3 hk3 hat3 HT2
          go_wp2
          go_roundw
          case rel =>
            refine ⟨k' + 1, insP ps S z, insS S z, by go_num, by omega, ?_, by omega, by omega⟩
            have := HT3.out
            have e : insS S z = S ++ [z] := by rw [insS, if_neg HM.out]
            rw [e] at this ⊢
            exact this
          case measure => simp [intOf]; omega
    · have hpsb : ps.length ≤ 100000 := by omega
      have hSb : S.length ≤ 256 := by omega
      clear hps hSl hk'
      obtain ⟨pk, rfl⟩ : ∃ pk : Nat, pick = pk := ⟨pick.toNat, (Int.toNat_of_nonneg hp0).symm⟩
      by_cases hpq : pk % 2 = 1 ∧ 0 < S.length
      · obtain ⟨hq1, hq2⟩ := hpq
        have hq1' : ((pk : Int) % 2 == 1) = true := by simp; omega
        have hq2' : (0 : Int) < (S.length : Int) := by omega
        have hJ : pk / 2 % S.length < S.length := Nat.mod_lt _ hq2
        have hJc : ((pk : Int) / 2 % (S.length : Int)) = ((pk / 2 % S.length : Nat) : Int) := by simp
        have hj0 : (0 : Int) ≤ (pk : Int) / 2 % (S.length : Int) := by rw [hJc]; omega
        have hj1 : (pk : Int) / 2 % (S.length : Int) < (S.length : Int) := by rw [hJc]; omega
        obtain ⟨g, rfl⟩ := HAO.out hq2
        obtain ⟨x, hx0, ex⟩ := HST.out.sr.cell _ hJ
        have hx : wr.cell? ⟨g, ((pk : Int) / 2 % (S.length : Int)).toNat, none⟩ = some (.string x) := by rw [hJc, Int.toNat_natCast]; exact hx0
        have hxs : x.size ≤ 100000 := by
          have h1 := HST.out.inv.p.length_lt (HST.out.inv.sub _ (ex ▸ List.getElem_mem hJ))
          have h2 : x.data.toList.length = x.size := by simp
          omega
        clear ex hJc
        go_upto_if 94 with (fail)
        go_cut [12] (fun s12 wx => ∃ Q : ByteArray, s12 = .string Q ∧ Q.size ≤ 200000 ∧ St w wx w.heap.size (.slice (some ⟨g, 0, none⟩) S.length capm) ps S S)
        case first =>
          go_wp2
          go_meet
          case rel => exact ⟨_, rfl, by rw [ByteArray.size_append]; omega, HST.out⟩
        case rest =>
          rename_i hK
          obtain ⟨Q, rfl, hQs, hstc⟩ := hcut
          exact hK _ _ (qae_tail hstc hpsb hSb hQs)
      · obtain ⟨u94, hu⟩ : ∃ u94 : Bool, ((pk : Int) % 2 == 1 && decide ((0 : Int) < (S.length : Int))) = u94 := ⟨_, rfl⟩
        by_cases hq1 : pk % 2 = 1
        · have hq1' : ((pk : Int) % 2 == 1) = true := by simp; omega
          have hq2' : ¬ (0 : Int) < (S.length : Int) := by have : ¬ 0 < S.length := fun e => hpq ⟨hq1, e⟩; omega
          have hq3' : decide ((0 : Int) < (S.length : Int)) = false := decide_eq_false hq2'
          clear hu
          go_upto_if 94 with (fail)
          go_cut [12] (fun s12 wx => ∃ Q : ByteArray, s12 = .string Q ∧ Q.size ≤ 200000 ∧ St w wx w.heap.size (.slice aom S.length capm) ps S S)
          case first =>
            go_wp2
            go_meet
            case rel => exact ⟨_, rfl, by omega, HST.out⟩
          case rest =>
            rename_i hK
            obtain ⟨Q, rfl, hQs, hstc⟩ := hcut
            exact hK _ _ (qae_tail hstc hpsb hSb hQs)
        · have hq1' : ((pk : Int) % 2 == 1) = false := by rw [beq_eq_false_iff_ne]; omega
          clear hu
          go_upto_if 94 with (fail)
          go_cut [12] (fun s12 wx => ∃ Q : ByteArray, s12 = .string Q ∧ Q.size ≤ 200000 ∧ St w wx w.heap.size (.slice aom S.length capm) ps S S)
          case first =>
            go_wp2
            go_meet
            case rel => exact ⟨_, rfl, by omega, HST.out⟩
          case rest =>
            rename_i hK
            obtain ⟨Q, rfl, hQs, hstc⟩ := hcut
            exact hK _ _ (qae_tail hstc hpsb hSb hQs)

end Go.Proofs.Ymwhat
