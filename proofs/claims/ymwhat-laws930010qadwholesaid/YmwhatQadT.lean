import Derived.Test.YmwhatQadD
import Derived.Deep.DeepCutAuto
set_option linter.unusedVariables false
set_option linter.unusedSimpArgs false
namespace Go.Proofs.Ymwhat
open Go.RowKit

set_option maxHeartbeats 4000000 in
set_option maxRecDepth 100000 in
theorem qad_tail {w wc : World} {ps S : List (List UInt8)} {Q : ByteArray} {aom : Option Addr} {capm : Nat} {c0 c1 c2 c3 c4 c5 c6 c9 c10 c11 c12 c13 c14 c16 c17 c18 c19 c20 c21 c22 c23 c24 c25 c26 c27 c28 c29 c30 c31 c32 c33 c34 c35 c36 c37 c38 c39 c40 c41 c42 c43 c44 c45 c46 c47 c48 c49 c50 c51 c52 c53 c54 c55 c56 c57 c58 c59 c60 c61 c62 c63 c64 c65 c66 c67 c68 c69 c70 c71 c72 c73 c74 c75 c76 c77 c78 c79 c80 c81 c82 c83 c84 c85 c86 c87 c88 c89 c90 c91 c92 c93 c94 c95 c96 c97 c98 c99 c100 c101 c102 c103 c104 c105 c106 c107 c108 c109 c110 c111 c112 c113 c114 c115 c116 c117 c118 c119 c120 c121 c122 c123 c124 c125 c126 c127 c128 c129 c130 c131 c132 c133 c134 c135 c136 c137 c138 c139 c140 c141 c142 c143 c144 c145 c146 c147 c148 c149 c150 c151 c152 c153 c154 c155 c156 c157 c158 c159 c160 : Value} (hstc : St w wc w.heap.size (.slice aom S.length capm) ps S S) (hpsb : ps.length ≤ 100000) (hSb : S.length ≤ 256) (hQs : Q.size ≤ 200000) :
    Code.wp Yatv.prog ((Yatv.f4.body.bind (restAfter 103)).getD .skip) (bodyPost Yatv.prog Yatv.f4 fun e w' => e = .returned (.bool true) ∧ Below w.heap.size w w') ⟨#[c0, c1, c2, c3, c4, c5, c6, .pointer (some ⟨w.heap.size, 0, none⟩), .slice aom S.length capm, c9, c10, c11, c12, c13, c14, .string Q, c16, c17, c18, c19, c20, c21, c22, c23, c24, c25, c26, c27, c28, c29, c30, c31, c32, c33, c34, c35, c36, c37, c38, c39, c40, c41, c42, c43, c44, c45, c46, c47, c48, c49, c50, c51, c52, c53, c54, c55, c56, c57, c58, c59, c60, c61, c62, c63, c64, c65, c66, c67, c68, c69, c70, c71, c72, c73, c74, c75, c76, c77, c78, c79, c80, c81, c82, c83, c84, c85, c86, c87, c88, c89, c90, c91, c92, c93, c94, c95, c96, c97, c98, c99, c100, c101, c102, c103, c104, c105, c106, c107, c108, c109, c110, c111, c112, c113, c114, c115, c116, c117, c118, c119, c120, c121, c122, c123, c124, c125, c126, c127, c128, c129, c130, c131, c132, c133, c134, c135, c136, c137, c138, c139, c140, c141, c142, c143, c144, c145, c146, c147, c148, c149, c150, c151, c152, c153, c154, c155, c156, c157, c158, c159, c160], []⟩ wc := by
  conv => arg 2; whnf
  have HX := hid hstc
  have HAO : Hid (0 < S.length → ∃ g, aom = some ⟨g, 0, none⟩) := by
    obtain ⟨ao', cap', h1, h2⟩ := hstc.sr.form
    simp at h1
    rw [h1.1]
    exact h2
  clear hstc
  obtain ⟨v0, v1, v2, hT⟩ := HX.out.cells
  have HTT := hid hT
  have hd0 := hT.c0
  clear hT
  go_wp2_with fail
  refine (clone16 HTT.out.r0 (fun _ => rfl) (by omega)).mono ?_
  rintro e x1 ⟨n0, rfl, hr0, hb1, _⟩
  have HTT1 := hid (HTT.out.later hb1)
  have HX1 := hid (HX.out.later hb1)
  have R0 := hid hr0
  have hd1 := HTT1.out.c1
  clear hd0 hr0 hb1 HTT HX
  go_wp2_with fail
  refine (clone17 HTT1.out.r1 (fun _ => rfl) (by omega)).mono ?_
  rintro e x2 ⟨n1, rfl, hr1, hb2, _⟩
  have HTT2 := hid (HTT1.out.later hb2)
  have HX2 := hid (HX1.out.later hb2)
  have R0' := hid (R0.out.later hb2)
  have R1 := hid hr1
  have hd2 := HTT2.out.c2
  clear hd1 hr1 hb2 HTT1 HX1 R0
  go_wp2_with fail
  refine (clone18 HTT2.out.r2 (fun _ => rfl) (by omega)).mono ?_
  rintro e x3 ⟨n2, rfl, hr2, hb3, _⟩
  have HTT3 := hid (HTT2.out.later hb3)
  have HX3 := hid (HX2.out.later hb3)
  have R0'' := hid (R0'.out.later hb3)
  have R1' := hid (R1.out.later hb3)
  have R2 := hid hr2
  clear hd2 hr2 hb3 HTT2 HX2 R0' R1
  have hd0 := HTT3.out.c0
  have hd1 := HTT3.out.c1
  have hd2 := HTT3.out.c2
  have hcle := cnt_le S Q.data.toList
  go_wp2_with fail
  refine (count28 HTT3.out HX3.out.inv (by omega) Q (by omega)).mono ?_
  rintro e wx ⟨rfl, hw⟩
  obtain rfl := hw.symm
  go_wp2
  go_loopw [20, 22, 126] (fun want _ i wr => x3 = wr ∧ ∃ k : Nat, i = .int .i64 k ∧ k ≤ S.length ∧ want = .int .i64 (cnt (S.take k) Q.data.toList)) (fun _ _ i _ => S.length - (intOf i).toNat)
  case atStart => exact ⟨rfl, 0, rfl, Nat.zero_le _, by simp [cnt]⟩
  case round =>
    obtain ⟨rfl, k, rfl, hk, rfl⟩ := hrel
    by_cases hlt : k < S.length
    · obtain ⟨g, rfl⟩ := HAO.out (by omega)
      obtain ⟨x, hx, ex⟩ := HX3.out.sr.cell k hlt
      have hxs : x.size ≤ 100000 := by
        have h1 := HX3.out.inv.p.length_lt (HX3.out.inv.sub _ (ex ▸ List.getElem_mem hlt))
        have h2 : x.data.toList.length = x.size := by simp
        omega
      have HC := hid (cnt_take_succ hlt Q.data.toList x.data.toList ex)
      have hcb : cnt (S.take k) Q.data.toList ≤ 256 := Nat.le_trans (cnt_le _ _) (by simp; omega)
      clear ex
      cases hpre : preB Q.data.toList x.data.toList
      · have HP := hid hpre
        clear hpre
        go_wp2_with (go_at_call 29; refine (hasPre29 x Q _ (by omega) (by omega)).mono ?_; rw [HP.out]; rintro e w' ⟨rfl, hw⟩; obtain rfl := hw.symm)
        go_roundw
        case rel =>
          refine ⟨by trivial, k + 1, by go_num, by omega, ?_⟩
          rw [HC.out, HP.out]
          simp
        case measure => simp [intOf]; omega
      · have HP := hid hpre
        clear hpre
        go_wp2_with (go_at_call 29; refine (hasPre29 x Q _ (by omega) (by omega)).mono ?_; rw [HP.out]; rintro e w' ⟨rfl, hw⟩; obtain rfl := hw.symm)
        go_roundw
        case rel =>
          refine ⟨by trivial, k + 1, by go_num, by omega, ?_⟩
          rw [HC.out, HP.out]
          simp
        case measure => simp [intOf]; omega
    · obtain rfl : S.length = k := by omega
      rw [List.take_length]
      have hbb : (((cnt S Q.data.toList : Nat) : Int) != ((cnt S Q.data.toList : Nat) : Int)) = false := by simp
      go_wp2_with (first | (go_at_call 20; refine (equal20 R0''.out HTT3.out.r0 (by omega)).mono ?_; rintro e w' ⟨rfl, m1, hw⟩; subst hw) | (go_at_call 21; refine (equal21 (w := x3.drewN _) R1'.out HTT3.out.r1 (by omega)).mono ?_; rintro e w' ⟨rfl, m2, hw⟩; rw [World.drewN_drewN] at hw; subst hw) | (go_at_call 22; refine (equal22 (w := x3.drewN _) R2.out HTT3.out.r2 (by omega)).mono ?_; rintro e w' ⟨rfl, m3, hw⟩; rw [World.drewN_drewN] at hw; subst hw))
      go_ret
      exact ⟨rfl, below_drews HX3.out.below _⟩

end Go.Proofs.Ymwhat
