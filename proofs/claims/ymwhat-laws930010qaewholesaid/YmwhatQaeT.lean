import Derived.Test.YmwhatWord
import Derived.Test.YmwhatQacT
import Derived.Deep.DeepCutAuto
set_option linter.unusedVariables false
set_option linter.unusedSimpArgs false
namespace Go.Proofs.Ymwhat
open Go.RowKit

set_option maxHeartbeats 4000000 in
set_option maxRecDepth 100000 in
theorem qae_tail {w wc : World} {ps S : List (List UInt8)} {Q : ByteArray} {aom : Option Addr} {capm : Nat} {c0 c1 c2 c3 c4 c5 c6 c9 c10 c11 c13 c14 c15 c16 c17 c18 c19 c20 c21 c22 c23 c24 c25 c26 c27 c28 c29 c30 c31 c32 c33 c34 c35 c36 c37 c38 c39 c40 c41 c42 c43 c44 c45 c46 c47 c48 c49 c50 c51 c52 c53 c54 c55 c56 c57 c58 c59 c60 c61 c62 c63 c64 c65 c66 c67 c68 c69 c70 c71 c72 c73 c74 c75 c76 c77 c78 c79 c80 c81 c82 c83 c84 c85 c86 c87 c88 c89 c90 c91 c92 c93 c94 c95 c96 c97 c98 c99 c100 c101 c102 c103 c104 c105 c106 c107 c108 c109 c110 c111 c112 c113 c114 c115 c116 c117 c118 c119 c120 c121 c122 c123 c124 c125 c126 c127 c128 c129 c130 c131 c132 c133 c134 c135 c136 c137 c138 c139 c140 c141 c142 c143 c144 c145 c146 c147 c148 c149 c150 c151 c152 c153 c154 c155 c156 c157 c158 c159 c160 c161 c162 c163 c164 c165 c166 c167 c168 c169 c170 c171 c172 c173 c174 c175 c176 c177 c178 c179 c180 c181 c182 c183 : Value} (hstc : St w wc w.heap.size (.slice aom S.length capm) ps S S) (hpsb : ps.length ≤ 100000) (hSb : S.length ≤ 256) (hQs : Q.size ≤ 200000) :
    Code.wp Yatv.prog ((Yatv.f5.body.bind (restAfter 94)).getD .skip) (bodyPost Yatv.prog Yatv.f5 fun e w' => e = .returned (.bool true) ∧ Below w.heap.size w w') ⟨#[c0, c1, c2, c3, c4, c5, c6, .pointer (some ⟨w.heap.size, 0, none⟩), .slice aom S.length capm, c9, c10, c11, .string Q, c13, c14, c15, c16, c17, c18, c19, c20, c21, c22, c23, c24, c25, c26, c27, c28, c29, c30, c31, c32, c33, c34, c35, c36, c37, c38, c39, c40, c41, c42, c43, c44, c45, c46, c47, c48, c49, c50, c51, c52, c53, c54, c55, c56, c57, c58, c59, c60, c61, c62, c63, c64, c65, c66, c67, c68, c69, c70, c71, c72, c73, c74, c75, c76, c77, c78, c79, c80, c81, c82, c83, c84, c85, c86, c87, c88, c89, c90, c91, c92, c93, c94, c95, c96, c97, c98, c99, c100, c101, c102, c103, c104, c105, c106, c107, c108, c109, c110, c111, c112, c113, c114, c115, c116, c117, c118, c119, c120, c121, c122, c123, c124, c125, c126, c127, c128, c129, c130, c131, c132, c133, c134, c135, c136, c137, c138, c139, c140, c141, c142, c143, c144, c145, c146, c147, c148, c149, c150, c151, c152, c153, c154, c155, c156, c157, c158, c159, c160, c161, c162, c163, c164, c165, c166, c167, c168, c169, c170, c171, c172, c173, c174, c175, c176, c177, c178, c179, c180, c181, c182, c183], []⟩ wc := by
  conv => arg 2; whnf
  obtain ⟨v0, v1, v2, hT⟩ := hstc.cells
  obtain ⟨ao0, cap0, rfl, hap0, _⟩ := hT.r0.form
  obtain ⟨ao1, cap1, rfl, hap1, _⟩ := hT.r1.form
  obtain ⟨ao2, cap2, rfl, hap2, _⟩ := hT.r2.form
  have HT := hid hT
  have HX := hid hstc
  have hd0 : ∀ o, (wc.alloc o).cell? ⟨w.heap.size, 0, none⟩ = some (.slice ao0 ps.length cap0) := fun o => (HT.out.later ((Below.refl _ _).alloc (Nat.le_refl _) o)).c0
  have HA0 := hid hap0
  clear hT hstc hap0 hap1 hap2
  go_wp2_with (at_builtin; refine wpList_append_all rfl (.tmp 106) (.tmp 110) 26 rfl 38 _ 26 208 Yatv.underlying26 Yatv.info38 (by simp [Value.cells]) (by decide) wc.heap.size _ rfl (owns_empty _ _ _) (by simp) _ ps.length _ rfl (HT.out.r0.alloc _) (fun _ => rfl) ?h630 ?hby0 ?_)
  case h630 => unfold maxLen; omega
  case hby0 => omega
  intro n0 w1 hr hb ho
  have hB : Below wc.heap.size wc w1 := ((Below.refl _ _).alloc (Nat.le_refl _) _).trans hb
  have R0 := hid hr
  have HT1 := hid (HT.out.later hB)
  have HX1 := hid (HX.out.later hB)
  have hd1 : ∀ o, (w1.alloc o).cell? ⟨w.heap.size, 1, none⟩ = some (.slice ao1 ps.length cap1) := fun o => (HT1.out.later ((Below.refl _ _).alloc (Nat.le_refl _) o)).c1
  clear hr hb ho hB HT HX hd0
  go_wp2_with (at_builtin; refine wpList_append_all rfl (.tmp 112) (.tmp 116) 27 rfl 4 _ 1 1 Yatv.underlying27 Yatv.info4 rfl (by decide) w1.heap.size _ rfl (owns_empty _ _ _) (by simp) _ ps.length _ rfl (HT1.out.r1.alloc _) (fun _ => rfl) ?h631 ?hby1 ?_)
  case h631 => unfold maxLen; omega
  case hby1 => omega
  intro n1 w2 hr hb ho
  have hB : Below w1.heap.size w1 w2 := ((Below.refl _ _).alloc (Nat.le_refl _) _).trans hb
  have R1 := hid hr
  have HT2 := hid (HT1.out.later hB)
  have HX2 := hid (HX1.out.later hB)
  have R02 := hid (R0.out.later hB)
  have hd2 : ∀ o, (w2.alloc o).cell? ⟨w.heap.size, 2, none⟩ = some (.slice ao2 ps.length cap2) := fun o => (HT2.out.later ((Below.refl _ _).alloc (Nat.le_refl _) o)).c2
  clear hr hb ho hB HT1 HX1 hd1 R0
  go_wp2_with (at_builtin; refine wpList_append_all rfl (.tmp 118) (.tmp 122) 28 rfl 3 _ 1 8 Yatv.underlying28 Yatv.info3 rfl (by decide) w2.heap.size _ rfl (owns_empty _ _ _) (by simp) _ ps.length _ rfl (HT2.out.r2.alloc _) (fun _ => rfl) ?h632 ?hby2 ?_)
  case h632 => unfold maxLen; omega
  case hby2 => omega
  intro n2 w3 hr hb ho
  have hB : Below w2.heap.size w2 w3 := ((Below.refl _ _).alloc (Nat.le_refl _) _).trans hb
  have R2 := hid hr
  have HT3 := hid (HT2.out.later hB)
  have HX3 := hid (HX2.out.later hB)
  have R03 := hid (R02.out.later hB)
  have R13 := hid (R1.out.later hB)
  clear hr hb ho hB HT2 HX2 hd2 R02 R1
  obtain ⟨apn, cpn, hn0, hapn, _⟩ := R03.out.form
  rw [hn0] at R03 ⊢
  have HAN := hid hapn
  clear hn0 hapn
  have e0 := HT3.out.c0
  have e1 := HT3.out.c1
  have e2 := HT3.out.c2
  go_wp2_with fail
  refine (longest33 HT3.out HX3.out.inv (by omega) Q (by omega)).mono ?_
  rintro e wx ⟨b, f, rfl, hlp, hw⟩
  obtain rfl := hw.symm
  have HLP := hid hlp
  clear hlp
  go_wp2_with fail
  refine (longest34 HX3.out.sr (by omega) Q (by omega)).mono ?_
  rintro e wx ⟨b', f', rfl, hlp, hw⟩
  obtain rfl := hw.symm
  obtain ⟨hbe, hfe⟩ := HLP.out.uniq hlp
  subst hbe; subst hfe
  clear hlp HLP
  have hbb : ((b : Int) != (b : Int)) = false := by simp
  have hff : (f != f) = false := by simp
  go_wp2
  clear hbb hff
  go_loopw [20] (fun i wr => (∃ m, wr = w3.drewN m) ∧ ∃ k : Nat, i = .int .i64 k ∧ k ≤ ps.length) (fun i _ => ps.length - (intOf i).toNat)
  case atStart => exact ⟨⟨0, rfl⟩, 0, rfl, Nat.zero_le _⟩
  case round =>
    obtain ⟨⟨m, rfl⟩, k3, rfl, hk3⟩ := hrel
    by_cases hlt3 : k3 < ps.length
    · obtain ⟨g0, rfl⟩ := HA0.out (by omega)
      obtain ⟨gn, rfl⟩ := HAN.out (by omega)
      have C1 : Hid (∀ j, j < 26 → (w3.drewN m).cell? ⟨g0, k3 * 26 + j, none⟩ = some (.int .i64 (nxt ps k3 j))) := fun j hj => by
        have := HT3.out.r0.cell (i := k3 * 26 + j) (by omega)
        rw [World.cell?_drewN, this, show (k3 * 26 + j) / 26 = k3 by omega, show (k3 * 26 + j) % 26 = j by omega]
      have C2 : Hid (∀ j, j < 26 → (w3.drewN m).cell? ⟨gn, k3 * 26 + j, none⟩ = some (.int .i64 (nxt ps k3 j))) := fun j hj => by
        have := R03.out.cell (i := k3 * 26 + j) (by omega)
        rw [World.cell?_drewN, this, show (k3 * 26 + j) / 26 = k3 by omega, show (k3 * 26 + j) % 26 = j by omega]
      have hi3 : (0 : Int) ≤ (k3 : Int) := by omega
      have hi4 : (k3 : Int) < (ps.length : Int) := by omega
      go_wp2
      refine wp_region_quiet_lit (by kernel_rfl) (by kernel_rfl) ?_
      repeat (first | (go_big_quiet_step (fail)) | (refine wpQuiet_load26 rfl (.tmp 163) rfl g0 (k3 * 26) (nxt ps k3) rfl C1.out ?_; simp only [Act.put, List.setIfInBounds_toArray, List.set_cons_succ, List.set_cons_zero]) | (refine wpQuiet_load26 rfl (.tmp 167) rfl gn (k3 * 26) (nxt ps k3) rfl C2.out ?_; simp only [Act.put, List.setIfInBounds_toArray, List.set_cons_succ, List.set_cons_zero]) | (refine wpQuiet_neq26 rfl (.tmp 164) (.tmp 168) rfl (nxt ps k3) rfl rfl ?_; simp only [Act.put, List.setIfInBounds_toArray, List.set_cons_succ, List.set_cons_zero]))
      refine wpQuiet_nil ?_
      intro _ hw'
      obtain ⟨nq, hw''⟩ := hw'
      subst hw''
      go_wp2
      go_roundw
      case rel => exact ⟨⟨_, rfl⟩, k3 + 1, by go_num, by omega⟩
      case measure => simp [intOf]; omega
    · go_wp2_with (first | (go_at_call 21; refine (equal21 (w := w3.drewN _) HT3.out.r1 R13.out (by omega)).mono ?_; rintro e w' ⟨rfl, m2, hw⟩; rw [World.drewN_drewN] at hw; subst hw) | (go_at_call 22; refine (equal22 (w := w3.drewN _) HT3.out.r2 R2.out (by omega)).mono ?_; rintro e w' ⟨rfl, m3, hw⟩; rw [World.drewN_drewN] at hw; subst hw))
      go_ret
      exact ⟨rfl, below_drews HX3.out.below _⟩

end Go.Proofs.Ymwhat
