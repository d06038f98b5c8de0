import Derived.Test.YmwhatQahH
import Derived.Deep.DeepCutAuto
set_option linter.unusedVariables false
set_option linter.unusedSimpArgs false
namespace Go.Proofs.Ymwhat
open Go.RowKit

/-- The words gathered so far. -/
def WantRel (x : World) (S : List (List UInt8)) (Q : List UInt8) (k : Nat) (v : Value) (wr : World) : Prop :=
  SR wr v ((S.take k).filter (preB Q)) ∧ Below x.heap.size x wr ∧ Own x.heap.size v

theorem sort39 {w : World} {v : Value} {M : List (List UInt8)} (h : SR w v M) (hn : M.length ≤ 1000000000) :
    Calls Yatv.prog 39 #[v] w fun e w' => e = .returned (.tuple #[]) ∧ SR w' v (srtd M) ∧ Kept (fun b => v.ownBlock = some b) w w' := by
  have h0 := h
  rcases h with ⟨rfl, h2⟩ | ⟨g, cap, cur, rfl, r⟩
  · have hM : M = [] := List.eq_nil_of_length_eq_zero h2
    subst hM
    have e0 : srtd ([] : List (List UInt8)) = [] := List.eq_nil_of_length_eq_zero (srtd_length [])
    rw [e0]
    exact (sort39_nil w).mono fun e w' ⟨h1, h3⟩ => ⟨h1, h3 ▸ h0, h3 ▸ Kept.refl _ _⟩
  · exact (sort39_pos h0 hn).mono fun e w' ⟨h1, h3, h4⟩ => ⟨h1, h3, h4.mono (fun x _ e => by rw [own_slice, e])⟩

set_option maxHeartbeats 4000000 in
set_option maxRecDepth 100000 in
theorem qah_tail {w wc : World} {tb : Nat} {ps S : List (List UInt8)} {Q : ByteArray} {aom : Option Addr} {capm : Nat} {c0 c1 c2 c3 c4 c5 c6 c7 c10 c11 c12 c14 c15 c16 c17 c18 c19 c20 c21 c22 c23 c24 c25 c26 c27 c28 c29 c30 c31 c32 c33 c34 c35 c36 c37 c38 c39 c40 c41 c42 c43 c44 c45 c46 c47 c48 c49 c50 c51 c52 c53 c54 c55 c56 c57 c58 c59 c60 c61 c62 c63 c64 c65 c66 c67 c68 c69 c70 c71 c72 c73 c74 c75 c76 c77 c78 c79 c80 c81 c82 c83 c84 c85 c86 c87 c88 c89 c90 c91 c92 c93 c94 c95 c96 c97 c98 c99 c100 c101 c102 c103 c104 c105 c106 c107 c108 c109 c110 c111 c112 c113 c114 c115 c116 c117 c118 c119 c120 c121 c122 c123 c124 c125 c126 c127 c128 c129 c130 c131 c132 c133 c134 c135 c136 c137 c138 c139 c140 c141 c142 c143 c144 c145 c146 c147 c148 c149 c150 c151 c152 c153 c154 c155 c156 c157 c158 c159 c160 c161 : Value} (hstc : St w wc tb (.slice aom S.length capm) ps S S) (hpsb : ps.length ≤ 100000) (hSb : S.length ≤ 300) (hQs : Q.size ≤ 1024) :
    Code.wp Yatv.prog ((Yatv.f7.body.bind (restAfter 87)).getD .skip) (bodyPost Yatv.prog Yatv.f7 fun e w' => e = .returned (.bool true) ∧ Below w.heap.size w w') ⟨#[c0, c1, c2, c3, c4, c5, c6, c7, .pointer (some ⟨tb, 0, none⟩), .slice aom S.length capm, c10, c11, c12, .string Q, c14, c15, c16, c17, c18, c19, c20, c21, c22, c23, c24, c25, c26, c27, c28, c29, c30, c31, c32, c33, c34, c35, c36, c37, c38, c39, c40, c41, c42, c43, c44, c45, c46, c47, c48, c49, c50, c51, c52, c53, c54, c55, c56, c57, c58, c59, c60, c61, c62, c63, c64, c65, c66, c67, c68, c69, c70, c71, c72, c73, c74, c75, c76, c77, c78, c79, c80, c81, c82, c83, c84, c85, c86, c87, c88, c89, c90, c91, c92, c93, c94, c95, c96, c97, c98, c99, c100, c101, c102, c103, c104, c105, c106, c107, c108, c109, c110, c111, c112, c113, c114, c115, c116, c117, c118, c119, c120, c121, c122, c123, c124, c125, c126, c127, c128, c129, c130, c131, c132, c133, c134, c135, c136, c137, c138, c139, c140, c141, c142, c143, c144, c145, c146, c147, c148, c149, c150, c151, c152, c153, c154, c155, c156, c157, c158, c159, c160, c161], []⟩ wc := by
  conv => arg 2; whnf
  have HX := hid hstc
  have HAO : Hid (0 < S.length → ∃ g, aom = some ⟨g, 0, none⟩) := by
    obtain ⟨ao', cap', h1, h2⟩ := hstc.sr.form
    simp at h1
    rw [h1.1]
    exact h2
  have HND := hid hstc.inv.nodup
  clear hstc
  obtain ⟨v0, v1, v2, hT⟩ := HX.out.cells
  have HTT := hid hT
  have hd0 := hT.c0
  clear hT
  go_wp2_with fail
  refine (clone16 HTT.out.r0 (fun _ => rfl) (by omega)).mono ?_
  rintro e x1 ⟨n0, rfl, hr0, hb1, _⟩
  have HTT1 := hid (HTT.out.later hb1)
  have HX1 := hid (HX.out.later hb1)
  have R0 := hid hr0
  have hd1 := HTT1.out.c1
  clear hd0 hr0 hb1 HTT HX
  go_wp2_with fail
  refine (clone17 HTT1.out.r1 (fun _ => rfl) (by omega)).mono ?_
  rintro e x2 ⟨n1, rfl, hr1, hb2, _⟩
  have HTT2 := hid (HTT1.out.later hb2)
  have HX2 := hid (HX1.out.later hb2)
  have R0' := hid (R0.out.later hb2)
  have R1 := hid hr1
  have hd2 := HTT2.out.c2
  clear hd1 hr1 hb2 HTT1 HX1 R0
  go_wp2_with fail
  refine (clone18 HTT2.out.r2 (fun _ => rfl) (by omega)).mono ?_
  rintro e x3 ⟨n2, rfl, hr2, hb3, _⟩
  have HTT3 := hid (HTT2.out.later hb3)
  have HX3 := hid (HX2.out.later hb3)
  have R0'' := hid (R0'.out.later hb3)
  have R1' := hid (R1.out.later hb3)
  have R2 := hid hr2
  clear hd2 hr2 hb3 HTT2 HX2 R0' R1
  have hd0 := HTT3.out.c0
  have hd1 := HTT3.out.c1
  have hd2 := HTT3.out.c2
  obtain ⟨R, hR⟩ : ∃ R, (srtd S).filter (preB Q.data.toList) = R := ⟨_, rfl⟩
  have hwp := withPrefix38 HTT3.out HX3.out.inv (by omega) Q (by omega)
  rw [hR] at hwp
  have HWP := hid hwp
  have HRR := hid hR
  have hRl : R.length ≤ 300 := by
    rw [← hR]
    have h1 := List.length_filter_le (preB Q.data.toList) (srtd S)
    rw [srtd_length] at h1
    omega
  clear hwp hR hd0 hd1 hd2
  go_wp2_with fail
  refine HWP.out.mono ?_
  rintro e x4 ⟨gg, capg, rfl, hgot, hb4, hgg⟩
  have HGOT := hid hgot
  have HX4 := hid (HX3.out.later hb4)
  have HTT4 := hid (HTT3.out.later hb4)
  have RA := hid (R0''.out.later hb4)
  have RB := hid (R1'.out.later hb4)
  have RC := hid (R2.out.later hb4)
  clear hgot hb4 HWP HX3 HTT3 R0'' R1' R2
  go_wp2
  go_loopw [18, 19] (fun want i wr => ∃ k : Nat, i = .int .i64 k ∧ k ≤ S.length ∧ WantRel x4 S Q.data.toList k want wr) (fun _ i _ => S.length - (intOf i).toNat)
  case atStart => exact ⟨0, rfl, Nat.zero_le _, Row.nil _ _ _ _, Below.refl _ _, fun g hg => by simp [Value.ownBlock] at hg⟩
  case round =>
    obtain ⟨k, rfl, hk, hsr, hb, ho⟩ := hrel
    obtain ⟨aw, capw, hvw, _⟩ := hsr.form
    rw [hvw] at hsr ho ⊢
    clear hvw
    have HSR := hid hsr
    have HB := hid hb
    have HO := hid ho
    have HSK := hid (HX4.out.later hb)
    clear hsr hb ho
    by_cases hlt : k < S.length
    · obtain ⟨g, rfl⟩ := HAO.out (by omega)
      obtain ⟨x, hx, ex⟩ := HSK.out.sr.cell k hlt
      have hxs : x.size ≤ 100000 := by
        have h1 := HSK.out.inv.p.length_lt (HSK.out.inv.sub _ (ex ▸ List.getElem_mem hlt))
        have h2 : x.data.toList.length = x.size := by simp
        omega
      have HTK := hid (filter_take_succ (preB Q.data.toList) S k hlt)
      rw [← ex] at HTK
      clear ex
      have hwl : ((S.take k).filter (preB Q.data.toList)).length ≤ 300 := Nat.le_trans (List.length_filter_le _ _) (by simp; omega)
      cases hpre : preB Q.data.toList x.data.toList
      · have HP := hid hpre
        have HR2 : Hid (WantRel x4 S Q.data.toList (k + 1) (.slice aw ((S.take k).filter (preB Q.data.toList)).length capw) wr) := by
          refine ⟨?_, HB.out, HO.out⟩
          rw [HTK.out, if_neg (by rw [HP.out]; simp), List.append_nil]
          exact HSR.out
        clear hpre
        go_wp2_with (go_at_call 29; refine (hasPre29 x Q _ (by omega) (by omega)).mono ?_; rw [HP.out]; rintro e w' ⟨rfl, hw⟩; obtain rfl := hw.symm)
        go_roundw
        case rel => exact ⟨k + 1, by go_num, by omega, HR2.out⟩
        case measure => simp [intOf]; omega
      · have HP := hid hpre
        clear hpre
        go_wp2_with (first | (go_at_call 29; refine (hasPre29 x Q _ (by omega) (by omega)).mono ?_; rw [HP.out]; rintro e w' ⟨rfl, hw⟩; obtain rfl := hw.symm) | (at_builtin; refine wpList_append_str rfl (.tmp 120) (.tmp 125) rfl Yatv.underlying31 Yatv.info9 _ _ rfl (Row.alloc HSR.out _) wr.heap.size x.data.toList rfl ?hH (by omega) ?_))
        case hH => rw [heap_alloc_new, bs_of]
        intro v' w1 hsr1 hk1 hat1
        have HR2 : Hid (WantRel x4 S Q.data.toList (k + 1) v' w1) := by
          refine ⟨?_, ?_, ?_⟩
          · rw [HTK.out, if_pos HP.out]
            exact hsr1
          · exact HB.out.trans ((Below.refl _ _).alloc HB.out.size _ |>.trans (hk1.below (by simp; have := HB.out.size; omega) (fun b hb e => by have := HO.out b e; omega)))
          · intro g' hg'
            rcases hat1 g' hg' with e | e
            · exact HO.out g' e
            · have := HB.out.size; omega
        clear hsr1 hk1 hat1
        go_wp2
        go_roundw
        case rel => exact ⟨k + 1, by go_num, by omega, HR2.out⟩
        case measure => simp [intOf]; omega
    · obtain rfl : S.length = k := by omega
      rw [List.take_length] at HSR HO ⊢
      have hwl : (S.filter (preB Q.data.toList)).length ≤ 300 := Nat.le_trans (List.length_filter_le _ _) (by omega)
      go_wp2_with fail
      refine (sort39 HSR.out (by omega)).mono ?_
      rintro e w5 ⟨rfl, hsr5, hk5⟩
      rw [srtd_filter HND.out, HRR.out] at hsr5
      have HB5 : Hid (Below x4.heap.size x4 w5) := HB.out.trans (hk5.below HB.out.size (fun b hb e => by have := HO.out b e; omega))
      have HS5 := hid hsr5
      have HG5 := hid (Row.later HGOT.out HB5.out)
      have HT5 := hid (HTT4.out.later HB5.out)
      have HX5 := hid (HX4.out.later HB5.out)
      have Ra := hid (RA.out.later HB5.out)
      have Rb := hid (RB.out.later HB5.out)
      have Rc := hid (RC.out.later HB5.out)
      have hd0 := HT5.out.c0
      have hd1 := HT5.out.c1
      have hd2 := HT5.out.c2
      clear hsr5 hk5 HSR HB HO HSK HGOT HTT4 HX4 RA RB RC
      have heqn := Lib.run_eql_slice_nil (P := Yatv.prog) w5 31 9 (some ⟨gg, 0, none⟩) R.length capg 0 0 Yatv.underlying31
      simp only [Option.isNone_some] at heqn
      go_wp2_with (first | (go_at_call 40; refine (equal40 HG5.out HS5.out (by omega)).mono ?_; rintro e w' ⟨rfl, m0, hw⟩; subst hw) | (go_at_call 20; refine (equal20 (w := w5.drewN _) HT5.out.r0 Ra.out (by omega)).mono ?_; rintro e w' ⟨rfl, m1, hw⟩; rw [World.drewN_drewN] at hw; subst hw) | (go_at_call 21; refine (equal21 (w := w5.drewN _) HT5.out.r1 Rb.out (by omega)).mono ?_; rintro e w' ⟨rfl, m2, hw⟩; rw [World.drewN_drewN] at hw; subst hw) | (go_at_call 22; refine (equal22 (w := w5.drewN _) HT5.out.r2 Rc.out (by omega)).mono ?_; rintro e w' ⟨rfl, m3, hw⟩; rw [World.drewN_drewN] at hw; subst hw))
      go_ret
      exact ⟨rfl, below_drews HX5.out.below _⟩

end Go.Proofs.Ymwhat
