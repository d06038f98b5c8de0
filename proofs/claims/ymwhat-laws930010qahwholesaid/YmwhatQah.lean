import Derived.Test.YmwhatQahT
import Derived.Test.YmwhatQafT
set_option linter.unusedVariables false
set_option linter.unusedSimpArgs false
namespace Go.Proofs.Ymwhat
open Go.RowKit

set_option maxHeartbeats 4000000 in
set_option maxRecDepth 100000 in
theorem qah_walk (ao : Option Addr) (len cap : Nat) (D : Nat → Int) (Wd : Nat → ByteArray) (q : ByteArray) (mw : Bool) (w : World) (hlen : len ≤ 9223372036854775807) (hq : q.size ≤ 9223372036854775807) (hW : ∀ i, i < len → (Wd i).size ≤ 9223372036854775807)
    (hops : OpsIn w ao len (fun i => .int .u8 (D i)) Wd) (hD0 : ∀ i, i < len → 0 ≤ D i) (hD1 : ∀ i, i < len → D i ≤ 255) :
    Calls Yatv.prog 7 #[.slice ao len cap, .string q, .bool mw] w fun e w' => e = .returned (.bool true) ∧ Below w.heap.size w w' := by
  have HO := hid hops
  have HW := hid hW
  have HD0 := hid hD0
  have HD1 := hid hD1
  clear hops hW hD0 hD1
  by_cases h1 : 300 < len
  · have h1' : (300 : Int) < (len : Int) := by omega
    go_enter Yatv.func7, Yatv.ntmps7
    go_wp2
    go_ret
    exact ⟨rfl, Below.refl _ _⟩
  have h1' : ¬ (300 : Int) < (len : Int) := by omega
  by_cases h2 : 1024 < q.size
  · have h2' : (1024 : Int) < (q.size : Int) := by omega
    go_enter Yatv.func7, Yatv.ntmps7
    go_wp2
    go_ret
    exact ⟨rfl, Below.refl _ _⟩
  have h2' : ¬ (1024 : Int) < (q.size : Int) := by omega
  go_enter Yatv.func7, Yatv.ntmps7
  go_wp2
  go_loopw [7] (fun i wr => w = wr ∧ ∃ k : Nat, i = .int .i64 k ∧ k ≤ len ∧ ∀ j, j < k → (Wd j).size ≤ 300) (fun i _ => len - (intOf i).toNat)
  case atStart => exact ⟨rfl, 0, rfl, Nat.zero_le _, fun j hj => absurd hj (Nat.not_lt_zero _)⟩
  case round =>
    obtain ⟨rfl, k, rfl, hk, hLb⟩ := hrel
    have HLb := hid hLb
    clear hLb
    by_cases hlt : k < len
    · obtain ⟨b, off, rfl, hbl, hc⟩ := HO.out (by omega)
      have hcs := (hc k hlt).2
      have hLk := HW.out k hlt
      clear hc
      by_cases h3 : 300 < (Wd k).size
      · have h3' : (300 : Int) < ((Wd k).size : Int) := by omega
        go_wp2
        go_ret
        exact ⟨rfl, Below.refl _ _⟩
      · have h3' : ¬ (300 : Int) < ((Wd k).size : Int) := by omega
        go_wp2
        go_roundw
        case rel =>
          refine ⟨by trivial, k + 1, by go_num, by omega, fun j hj => ?_⟩
          by_cases e : j < k
          · exact HLb.out j e
          · obtain rfl : j = k := by omega
            omega
        case measure => simp [intOf]; omega
    · obtain rfl : len = k := by omega
      have HN := hid (St.newNil (Below.refl w.heap.size w))
      go_wp2
      go_loopw [9, 10, 11, 12] (fun mo i _ _ wr => ∃ (k : Nat) (ps S : List (List UInt8)), i = .int .i64 k ∧ k ≤ len ∧ St w wr w.heap.size mo ps S S ∧ ps.length ≤ k * 302 ∧ S.length ≤ k) (fun _ i _ _ _ => len - (intOf i).toNat)
      case atStart => exact ⟨0, [], [], rfl, Nat.zero_le _, HN.out, Nat.le_refl _, Nat.le_refl _⟩
      case round =>
        obtain ⟨k', ps, S, rfl, hk', hst, hps, hSl⟩ := hrel
        have HND := hid hst.inv.nodup
        obtain ⟨aom, capm, hmo, hao⟩ := hst.sr.form
        rw [hmo] at hst ⊢
        clear hmo
        have hcm := hst.sr.cap
        have HST := hid hst
        have HAO := hid hao
        clear hst HN hao
        by_cases hlt' : k' < len
        · have hps3 : ps.length ≤ (k' + 1) * 302 := le_step hps
          obtain ⟨b, off, rfl, hbl, hc⟩ := HO.out (by omega)
          obtain ⟨d, hdd⟩ : ∃ d : Nat, D k' = d := ⟨(D k').toNat, (Int.toNat_of_nonneg (HD0.out k' hlt')).symm⟩
          have hcb : wr.cell? ⟨b, off + k' * 2, none⟩ = some (.int .u8 d) := by rw [← hdd]; exact (HST.out.below.cell (p := ⟨b, off + k' * 2, none⟩) hbl).trans (hc k' hlt').1
          have hcs := (HST.out.below.cell (p := ⟨b, off + k' * 2 + 1, none⟩) hbl).trans (hc k' hlt').2
          have hd1 : d ≤ 255 := by have := HD1.out k' hlt'; omega
          have hWk := HLb.out k' hlt'
          clear hc hdd
          go_wp2_with fail
          refine (map37_any (Wd k') wr (by omega)).mono ?_
          rintro e w2 ⟨rfl, hb2⟩
          have HX2 := hid (HST.out.later hb2)
          have HV := hid (mapL_valid 4 (by decide) (by decide) ((Wd k').data.toList))
          have hzl : (mapL 4 ((Wd k').data.toList)).length ≤ 300 := by rw [mapL_length]; simpa using hWk
          have hcb2 := (hb2.cell (p := ⟨b, off + k' * 2, none⟩) (show b < wr.heap.size by have := HST.out.below.size; omega)).trans hcb
          generalize mapL 4 ((Wd k').data.toList) = z at *
          clear hb2 HST hcb hcs
          have hzs : (bs z).size ≤ 300 := by rw [bs_size]; exact hzl
          by_cases h2 : d % 3 = 2
          · have e2 : ((d : Int) % 3 == 2) = true := by simp; omega
            go_wp2_with fail
            refine (HX2.out.remove (bs z) (by omega) (by omega) (by omega)).mono ?_
            rintro e w3 ⟨rfl, hst3⟩
            rw [bs_data] at hst3
            have HX3 := hid hst3
            clear hst3 HX2
            by_cases hmem : z ∈ S
            · have HI := hid (idxI_nonneg hmem)
              have hjl := List.idxOf_lt_length_iff.2 hmem
              obtain ⟨g, rfl⟩ := HAO.out (by omega)
              have hel : (S.erase z).length ≤ k' + 1 := by have := List.length_erase_le (l := S) (a := z); omega
              have HE := hid (eraseIdx_idxOf (S := S) z)
              clear hmem
              have hin : ¬ ((S.idxOf z : Nat) : Int) < 0 := by omega
              generalize S.idxOf z = J at *
              go_wp2_with (first | (go_at_call 25; refine (index25 HX3.out.sr (by omega) (bs z)).mono ?_; rw [bs_data, HI.out]; rintro e w' ⟨rfl, hw⟩; obtain rfl := hw.symm) | (go_at_call 26; refine (delete26 HX3.out.sr hjl (by omega)).mono ?_; rintro e w4 ⟨rfl, hsr4, hk4⟩))
              have HX4 := hid (HX3.out.delete26 hsr4 hk4)
              rw [HE.out] at HX4
              clear hsr4 hk4
              go_wp2
              go_roundw
              case rel => exact ⟨k' + 1, ps, S.erase z, by go_num, by omega, HX4.out, hps3, hel⟩
              case measure => simp [intOf]; omega
            · have HI := hid (idxI_neg hmem)
              rw [List.erase_of_not_mem hmem] at HX3
              clear hmem
              go_wp2_with (go_at_call 25; refine (index25 HX3.out.sr (by omega) (bs z)).mono ?_; rw [bs_data, HI.out]; rintro e w' ⟨rfl, hw⟩; obtain rfl := hw.symm)
              go_roundw
              case rel => exact ⟨k' + 1, ps, S, by go_num, by omega, HX3.out, hps3, by omega⟩
              case measure => simp [intOf]; omega
          · have e2 : ((d : Int) % 3 == 2) = false := by rw [beq_eq_false_iff_ne]; omega
            go_wp2_with fail
            refine (HX2.out.insert (bs z) (by omega) (by omega) HV.out).mono ?_
            rintro e w3 ⟨rfl, hst3⟩
            rw [bs_data] at hst3
            have HT2 := hid hst3
            clear hst3 HX2
            have hSl2 := length_insS S z
            have hps2 := length_insP ps S z
            by_cases hmem : z ∈ S
            · have hmb : memb S z = true := by simp [memb, hmem]
              have HMB := hid hmb
              have HM := hid hmem
              clear hmb hmem
              go_wp2_with (go_at_call 24; refine (contains24 HT2.out.sr (by omega) (bs z)).mono ?_; rw [bs_data]; rw [HMB.out]; rintro e w' ⟨rfl, hw⟩; obtain rfl := hw.symm)
              go_roundw
              case rel =>
                refine ⟨k' + 1, insP ps S z, S, by go_num, by omega, ?_, by omega, by omega⟩
                have := HT2.out
                rw [insS, if_pos HM.out] at this
                exact this
              case measure => simp [intOf]; omega
            · have hmb : memb S z = false := by simp [memb, hmem]
              have HMB := hid hmb
              have HM := hid hmem
              clear hmb hmem
              go_wp2_with (first | (go_at_call 24; refine (contains24 HT2.out.sr (by omega) (bs z)).mono ?_; rw [bs_data]; rw [HMB.out]; rintro e w' ⟨rfl, hw⟩; obtain rfl := hw.symm) | (at_builtin; refine wpList_append_str rfl (.tmp 82) (.tmp 84) rfl Yatv.underlying31 Yatv.info9 _ S rfl (Row.alloc HT2.out.sr _) w3.heap.size z rfl ?hH ?hn ?_))
              case hH => exact heap_alloc_new _ _
              case hn => omega
              intro v' w4 hsr3 hk3 hat3
              have HT3 : Hid (St w w4 w.heap.size v' (insP ps S z) (insS S z) (S ++ [z])) := (HT2.out.later ((Below.refl _ _).alloc (Nat.le_refl _) _)).model hk3 hsr3 (by simpa using hat3)
              clear hsr3 hk3 hat3 HT2
              go_wp2
              go_roundw
              case rel =>
                refine ⟨k' + 1, insP ps S z, insS S z, by go_num, by omega, ?_, by omega, by omega⟩
                have := HT3.out
                have e : insS S z = S ++ [z] := by rw [insS, if_neg HM.out]
                rw [e] at this ⊢
                exact this
              case measure => simp [intOf]; omega
        · have hpsb : ps.length ≤ 100000 := by omega
          have hSb : S.length ≤ 300 := by omega
          clear hps hSl hk'
          go_upto_if 87 with (fail)
          go_cut [13] (fun s13 wx => ∃ Q : ByteArray, s13 = .string Q ∧ Q.size ≤ 1024 ∧ St w wx w.heap.size (.slice aom S.length capm) ps S S)
          case first =>
            cases mw
            · go_wp2
              go_meet
              case rel => exact ⟨q, rfl, by omega, HST.out⟩
            · go_wp2_with fail
              refine (map37_any q wr (by omega)).mono ?_
              rintro e w1 ⟨rfl, hbm⟩
              have HX := hid (HST.out.later hbm)
              clear hbm
              go_wp2
              go_meet
              case rel => exact ⟨_, rfl, by rw [bs_size, mapL_length]; simp; omega, HX.out⟩
          case rest =>
            rename_i hK
            obtain ⟨Q, rfl, hQs, hstc⟩ := hcut
            exact hK _ _ (qah_tail hstc hpsb hSb hQs)

end Go.Proofs.Ymwhat
