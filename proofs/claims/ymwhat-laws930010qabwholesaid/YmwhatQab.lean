import Derived.Test.YmwhatQabT
set_option linter.unusedVariables false
set_option linter.unusedSimpArgs false
namespace Go.Proofs.Ymwhat
open Go.RowKit

set_option maxHeartbeats 4000000 in
set_option maxRecDepth 100000 in
theorem qab_tail1 {w wc : World} {tb mb : Nat} {ps S : List (List UInt8)} {Q : ByteArray} {c0 c1 c2 c3 c4 c5 c6 c7 c10 c11 c13 c14 c15 c16 c17 c18 c19 c20 c21 c22 c23 c24 c25 c26 c27 c28 c29 c30 c31 c32 c33 c34 c35 c36 c37 c38 c39 c40 c41 c42 c43 c44 c45 c46 c47 c48 c49 c50 c51 c52 c53 c54 c55 c56 c57 c58 c59 c60 c61 c62 c63 c64 c65 c66 c67 c68 c69 c70 c71 c72 c73 c74 c75 c76 c77 c78 c79 c80 c81 c82 c83 c84 c85 c86 c87 c88 c89 c90 c91 c92 c93 c94 c95 c96 c97 c98 c99 c100 c101 c102 c103 c104 c105 c106 c107 c108 c109 c110 c111 c112 c113 c114 c115 c116 c117 c118 c119 c120 c121 c122 c123 c124 c125 c126 c127 c128 c129 c130 c131 c132 c133 c134 c135 c136 c137 c138 c139 c140 c141 c142 c143 c144 c145 c146 c147 c148 c149 c150 c151 c152 c153 c154 c155 c156 c157 c158 c159 c160 c161 c162 c163 c164 c165 c166 c167 c168 c169 c170 c171 c172 c173 c174 c175 c176 c177 c178 c179 c180 c181 c182 c183 c184 c185 c186 c187 c188 c189 c190 c191 c192 c193 c194 c195 c196 c197 c198 c199 c200 c201 c202 c203 c204 c205 c206 c207 c208 c209 c210 c211 c212 c213 c214 c215 c216 c217 c218 c219 c220 : Value} (hst : St2 w wc tb mb ps S ps S) (hpsb : ps.length ≤ 70000) (hSb : S.length ≤ 256) (hQ : Q.size ≤ 256) :
    Code.wp Yatv.prog ((Yatv.f10.body.bind (restAfter 80)).getD .skip) (bodyPost Yatv.prog Yatv.f10 fun e w' => e = .returned (.bool true) ∧ Below w.heap.size w w') ⟨#[c0, c1, c2, c3, c4, c5, c6, c7, .pointer (some ⟨tb, 0, none⟩), .pointer (some ⟨mb, 0, none⟩), c10, c11, .string Q, c13, c14, c15, c16, c17, c18, c19, c20, c21, c22, c23, c24, c25, c26, c27, c28, c29, c30, c31, c32, c33, c34, c35, c36, c37, c38, c39, c40, c41, c42, c43, c44, c45, c46, c47, c48, c49, c50, c51, c52, c53, c54, c55, c56, c57, c58, c59, c60, c61, c62, c63, c64, c65, c66, c67, c68, c69, c70, c71, c72, c73, c74, c75, c76, c77, c78, c79, c80, c81, c82, c83, c84, c85, c86, c87, c88, c89, c90, c91, c92, c93, c94, c95, c96, c97, c98, c99, c100, c101, c102, c103, c104, c105, c106, c107, c108, c109, c110, c111, c112, c113, c114, c115, c116, c117, c118, c119, c120, c121, c122, c123, c124, c125, c126, c127, c128, c129, c130, c131, c132, c133, c134, c135, c136, c137, c138, c139, c140, c141, c142, c143, c144, c145, c146, c147, c148, c149, c150, c151, c152, c153, c154, c155, c156, c157, c158, c159, c160, c161, c162, c163, c164, c165, c166, c167, c168, c169, c170, c171, c172, c173, c174, c175, c176, c177, c178, c179, c180, c181, c182, c183, c184, c185, c186, c187, c188, c189, c190, c191, c192, c193, c194, c195, c196, c197, c198, c199, c200, c201, c202, c203, c204, c205, c206, c207, c208, c209, c210, c211, c212, c213, c214, c215, c216, c217, c218, c219, c220], []⟩ wc := by
  conv => arg 2; whnf
  have HX := hid hst
  clear hst
  cases hval : validB Q.data.toList
  · have HV := hid hval
    clear hval
    go_upto_if 91 with (first | (go_at_call 14; refine (insert_bad _ Q _ (by omega) HV.out).mono ?_; rintro e w' ⟨rfl, hw⟩; obtain rfl := hw.symm) | (go_at_call 50; refine (minsert_bad _ Q _ (by omega) HV.out).mono ?_; rintro e w' ⟨rfl, hw⟩; obtain rfl := hw.symm))
    go_cut [6] (fun _ wx => wx = wc)
    case first =>
      go_wp2
      go_meet
      case rel => trivial
    case rest =>
      rename_i hK
      obtain rfl := hcut
      exact hK _ _ (qab_tail2 HX.out (by omega))
  · have HV := hid hval
    clear hval
    have hps2 := length_insP ps S Q.data.toList
    have hQl : Q.data.toList.length ≤ 256 := by simpa using hQ
    obtain ⟨gv, hgv0⟩ : ∃ gv : Int, (if Q.data.toList ∈ S then (1 : Int) else 0) = gv := ⟨_, rfl⟩
    have hti := HX.out.tinsert Q (by omega) (by omega) HV.out
    rw [hgv0] at hti
    have HTI := hid hti
    have HGV := hid hgv0
    clear hti hgv0
    go_wp2_with fail
    refine HTI.out.mono ?_
    rintro e w2 ⟨rfl, hst2⟩
    clear HTI
    have HX2 := hid hst2
    clear hst2
    have hmi := HX2.out.minsert Q (by omega) (by omega) HV.out
    rw [HGV.out] at hmi
    have HMI := hid hmi
    clear hmi
    go_wp2_with fail
    refine HMI.out.mono ?_
    rintro e w3 ⟨rfl, hst3⟩
    clear HMI
    have HX3 := hid hst3
    clear hst3 HX HX2
    have hgv : (gv != gv) = false := by simp
    go_upto_if 91 with (fail)
    go_cut [6] (fun _ wx => wx = w3)
    case first =>
      go_wp2
      go_meet
      case rel => trivial
    case rest =>
      rename_i hK
      obtain rfl := hcut
      exact hK _ _ (qab_tail2 HX3.out (by omega))

set_option maxHeartbeats 4000000 in
set_option maxRecDepth 100000 in
theorem qab_walk (ao : Option Addr) (len cap : Nat) (D : Nat → Int) (Wd : Nat → ByteArray) (q : ByteArray) (mw : Bool) (w : World) (hlen : len ≤ 9223372036854775807) (hq : q.size ≤ 9223372036854775807) (hW : ∀ i, i < len → (Wd i).size ≤ 9223372036854775807)
    (hops : OpsIn w ao len (fun i => .int .u8 (D i)) Wd) (hD0 : ∀ i, i < len → 0 ≤ D i) (hD1 : ∀ i, i < len → D i ≤ 255) :
    Calls Yatv.prog 10 #[.slice ao len cap, .string q, .bool mw] w fun e w' => e = .returned (.bool true) ∧ Below w.heap.size w w' := by
  have HO := hid hops
  have HW := hid hW
  have HD0 := hid hD0
  have HD1 := hid hD1
  clear hops hW hD0 hD1
  by_cases h1 : 256 < len
  · have h1' : (256 : Int) < (len : Int) := by omega
    go_enter Yatv.func10, Yatv.ntmps10
    go_wp2
    go_ret
    exact ⟨rfl, Below.refl _ _⟩
  have h1' : ¬ (256 : Int) < (len : Int) := by omega
  by_cases h2 : 256 < q.size
  · have h2' : (256 : Int) < (q.size : Int) := by omega
    go_enter Yatv.func10, Yatv.ntmps10
    go_wp2
    go_ret
    exact ⟨rfl, Below.refl _ _⟩
  have h2' : ¬ (256 : Int) < (q.size : Int) := by omega
  go_enter Yatv.func10, Yatv.ntmps10
  go_wp2
  go_loopw [7] (fun i wr => w = wr ∧ ∃ k : Nat, i = .int .i64 k ∧ k ≤ len ∧ ∀ j, j < k → (Wd j).size ≤ 256) (fun i _ => len - (intOf i).toNat)
  case atStart => exact ⟨rfl, 0, rfl, Nat.zero_le _, fun j hj => absurd hj (Nat.not_lt_zero _)⟩
  case round =>
    obtain ⟨rfl, k, rfl, hk, hLb⟩ := hrel
    have HLb := hid hLb
    clear hLb
    by_cases hlt : k < len
    · obtain ⟨b, off, rfl, hbl, hc⟩ := HO.out (by omega)
      have hcs := (hc k hlt).2
      have hLk := HW.out k hlt
      clear hc
      by_cases h3 : 256 < (Wd k).size
      · have h3' : (256 : Int) < ((Wd k).size : Int) := by omega
        go_wp2
        go_ret
        exact ⟨rfl, Below.refl _ _⟩
      · have h3' : ¬ (256 : Int) < ((Wd k).size : Int) := by omega
        go_wp2
        go_roundw
        case rel =>
          refine ⟨by trivial, k + 1, by go_num, by omega, fun j hj => ?_⟩
          by_cases e : j < k
          · exact HLb.out j e
          · obtain rfl : j = k := by omega
            omega
        case measure => simp [intOf]; omega
    · obtain rfl : len = k := by omega
      have HN := hid (St2.new w)
      go_wp2
      go_loopw [10, 11] (fun i _ wr => ∃ (k : Nat) (ps S : List (List UInt8)), i = .int .i64 k ∧ k ≤ len ∧ St2 w wr w.heap.size (w.heap.size + 1) ps S ps S ∧ ps.length ≤ k * 258 ∧ S.length ≤ k) (fun i _ _ => len - (intOf i).toNat)
      case atStart => exact ⟨0, [], [], rfl, Nat.zero_le _, HN.out, Nat.le_refl _, Nat.le_refl _⟩
      case round =>
        obtain ⟨k', ps, S, rfl, hk', hst, hps, hSl⟩ := hrel
        have HST := hid hst
        clear hst HN
        by_cases hlt' : k' < len
        · have hps3 : ps.length ≤ (k' + 1) * 258 := le_step hps
          obtain ⟨b, off, rfl, hbl, hc⟩ := HO.out (by omega)
          obtain ⟨d, hdd⟩ : ∃ d : Nat, D k' = d := ⟨(D k').toNat, (Int.toNat_of_nonneg (HD0.out k' hlt')).symm⟩
          have hcb : wr.cell? ⟨b, off + k' * 2, none⟩ = some (.int .u8 d) := by rw [← hdd]; exact (HST.out.below.cell (p := ⟨b, off + k' * 2, none⟩) hbl).trans (hc k' hlt').1
          have hcs := (HST.out.below.cell (p := ⟨b, off + k' * 2 + 1, none⟩) hbl).trans (hc k' hlt').2
          have hWk := HLb.out k' hlt'
          have hd1 : d ≤ 255 := by have := HD1.out k' hlt'; omega
          clear hc hdd
          go_wp2_with fail
          refine (map49_any (Wd k') _ (by omega)).mono ?_
          rintro e w2 ⟨rfl, hb2⟩
          have HX2 := hid (HST.out.later hb2)
          have HV := hid (mapL_valid 3 (by decide) (by decide) ((Wd k').data.toList))
          have hzl : (mapL 3 ((Wd k').data.toList)).length ≤ 256 := by rw [mapL_length]; simpa using hWk
          have hcb2 := (hb2.cell (p := ⟨b, off + k' * 2, none⟩) (show b < wr.heap.size by have := HST.out.below.size; omega)).trans hcb
          generalize mapL 3 ((Wd k').data.toList) = z at *
          clear hb2 HST hcb hcs
          have hzs : (bs z).size ≤ 256 := by rw [bs_size]; exact hzl
          have hm2 : d % 2 < 2 := Nat.mod_lt _ (by decide)
          by_cases h0 : d % 2 = 0
          · have e0 : ((d : Int) % 2 == 0) = true := by simp; omega
            obtain ⟨gv, hgv0⟩ : ∃ gv : Int, (if z ∈ S then (1 : Int) else 0) = gv := ⟨_, rfl⟩
            have hti := HX2.out.tinsert (bs z) (by omega) (by omega) HV.out
            rw [bs_data, hgv0] at hti
            have HTI := hid hti
            have HGV := hid hgv0
            clear hti hgv0
            go_wp2_with fail
            refine HTI.out.mono ?_
            rintro e w3 ⟨rfl, hst3⟩
            clear HTI
            have HX3 := hid hst3
            clear hst3 HX2
            have hmi := HX3.out.minsert (bs z) (by omega) (by omega) HV.out
            rw [bs_data, HGV.out] at hmi
            have HMI := hid hmi
            clear hmi
            go_wp2_with fail
            refine HMI.out.mono ?_
            rintro e w4 ⟨rfl, hst4⟩
            clear HMI
            have HX4 := hid hst4
            clear hst4 HX3
            have hSl2 := length_insS S z
            have hps2 := length_insP ps S z
            have hgv : (gv != gv) = false := by simp
            go_wp2
            go_roundw
            case rel => exact ⟨k' + 1, insP ps S z, insS S z, by go_num, by omega, HX4.out, by omega, by omega⟩
            case measure => simp [intOf]; omega
          · have e0 : ((d : Int) % 2 == 0) = false := by rw [beq_eq_false_iff_ne]; omega
            go_wp2_with fail
            refine (HX2.out.tremove (bs z) (by omega) (by omega) (by omega)).mono ?_
            rw [bs_data]
            rintro e w3 ⟨rfl, hst3⟩
            have HX3 := hid hst3
            clear hst3 HX2
            go_wp2_with fail
            refine (HX3.out.mremove (bs z) (by omega) (by omega) (by omega)).mono ?_
            rw [bs_data]
            rintro e w4 ⟨rfl, hst4⟩
            have HX4 := hid hst4
            clear hst4 HX3
            have hel : (S.erase z).length ≤ k' + 1 := by have := List.length_erase_le (l := S) (a := z); omega
            have hgv : (memb S z != memb S z) = false := by simp
            go_wp2
            go_roundw
            case rel => exact ⟨k' + 1, ps, S.erase z, by go_num, by omega, HX4.out, hps3, hel⟩
            case measure => simp [intOf]; omega
        · have hpsb : ps.length ≤ 70000 := by omega
          have hSb : S.length ≤ 256 := by omega
          clear hps hSl hk'
          go_upto_if 80 with (fail)
          go_cut [12] (fun s12 wx => ∃ Q : ByteArray, s12 = .string Q ∧ Q.size ≤ 256 ∧ St2 w wx w.heap.size (w.heap.size + 1) ps S ps S)
          case first =>
            cases mw
            · go_wp2
              go_meet
              case rel => exact ⟨q, rfl, by omega, HST.out⟩
            · go_wp2_with fail
              refine (map49_any q wr (by omega)).mono ?_
              rintro e w1 ⟨rfl, hbm⟩
              have HX := hid (HST.out.later hbm)
              clear hbm
              go_wp2
              go_meet
              case rel => exact ⟨_, rfl, by rw [bs_size, mapL_length]; simp; omega, HX.out⟩
          case rest =>
            rename_i hK
            obtain ⟨Q, rfl, hQs, hstc⟩ := hcut
            exact hK _ _ (qab_tail1 hstc hpsb hSb hQs)

end Go.Proofs.Ymwhat
