import Derived.Test.YmwhatSelect
import Derived.Test.YmwhatQacT
import Derived.Deep.DeepCutAuto
set_option linter.unusedVariables false
set_option linter.unusedSimpArgs false
namespace Go.Proofs.Ymwhat
open Go.RowKit

theorem run_make26 (n : Nat) (hn : n ≤ 1000000000) (w : World) : (Instr.makeSlice 26 (.int .i64 (n : Int)) (.int .i64 (n : Int))).run Yatv.prog w = .ok (.slice (some ⟨w.heap.size, 0, none⟩) n n) (w.alloc (.cells (madeCells (Array.replicate 26 (.int .i64 0)) (n * 26)) 38)) := by
  obtain ⟨i, hi, hz, hs, hb⟩ := info_parts Yatv.info38
  have hr := run_make (P := Yatv.prog) w 26 38 i _ Yatv.underlying26 hi hz .i64 .i64 n n (by omega) (Int.le_refl _) (by rw [hb]; omega) (by omega)
  rw [Int.toNat_natCast, hs] at hr
  have e : (Value.agg (Array.replicate 26 (Value.int IntKind.i64 0))).cells = Array.replicate 26 (.int .i64 0) := by simp [Value.cells]
  rw [e] at hr
  exact hr

theorem Yatv.size38 : (Yatv.prog.info? 38).map (·.size) = some 26 := by kernel_rfl
theorem Yatv.size4 : (Yatv.prog.info? 4).map (·.size) = some 1 := by kernel_rfl
theorem Yatv.size3 : (Yatv.prog.info? 3).map (·.size) = some 1 := by kernel_rfl

theorem St.ins42 {w0 wr w' : World} {tb : Nat} {v v' : Value} {ps M M' : List (List UInt8)} {z : List UInt8} (h : St w0 wr tb v ps (insS M z) M) (hs : Srt M) (hI : Ins42 M z M') (hr : SR w' v' M') (hk : Kept (fun b => v.ownBlock = some b) wr w') (hat : ∀ g, v'.ownBlock = some g → v.ownBlock = some g ∨ wr.heap.size ≤ g) :
    St w0 w' tb v' ps M' M' ∧ Srt M' ∧ M'.length ≤ M.length + 1 := by
  have h1 := h.model hk hr hat
  rcases hI with ⟨hm, rfl⟩ | ⟨i, hp, rfl⟩
  · rw [insS, if_pos hm] at h1
    exact ⟨h1, hs, by omega⟩
  · rw [insS, if_neg (hp.not_mem hs)] at h1
    exact ⟨h1.perm (insAt_perm M z i).symm, hp.srt hs, by rw [insAt_length]; omega⟩

theorem St.rem43 {w0 wr w' : World} {tb : Nat} {v v' : Value} {ps M M' : List (List UInt8)} {z : List UInt8} (h : St w0 wr tb v ps (M.erase z) M) (hs : Srt M) (hI : Rem43 M z M') (hr : SR w' v' M') (hk : Kept (fun b => v.ownBlock = some b) wr w') (hat : ∀ g, v'.ownBlock = some g → v.ownBlock = some g ∨ wr.heap.size ≤ g) :
    St w0 w' tb v' ps M' M' ∧ Srt M' ∧ M'.length ≤ M.length := by
  have h1 := h.model hk hr hat
  rcases hI with ⟨i, hp, rfl⟩ | ⟨i, hp, rfl⟩
  · rw [List.erase_of_not_mem (hp.not_mem hs)] at h1
    exact ⟨h1, hs, by omega⟩
  · rw [← hp.erase hs] at h1
    refine ⟨h1, ?_, ?_⟩
    · rw [hp.erase hs]; exact srt_erase hs z
    · rw [List.length_eraseIdx]; split <;> omega

/-- The copies of the three arrays. -/
structure Cp (w : World) (g0 g1 g2 : Nat) (ps M : List (List UInt8)) : Prop where
  r0 : Row w 38 26 (.slice (some ⟨g0, 0, none⟩) ps.length ps.length) ps.length (fun i => .int .i64 (nxt ps (i / 26) (i % 26)))
  r1 : Row w 4 1 (.slice (some ⟨g1, 0, none⟩) ps.length ps.length) ps.length (fun i => .bool (wx ps (memb M) i))
  r2 : Row w 3 1 (.slice (some ⟨g2, 0, none⟩) ps.length ps.length) ps.length (fun i => .int .i64 (bx ps (cnt M) i))

theorem Cp.later {w w' : World} {g0 g1 g2 : Nat} {ps M : List (List UInt8)} (h : Cp w g0 g1 g2 ps M) (hb : Below w.heap.size w w') : Cp w' g0 g1 g2 ps M := ⟨h.r0.later hb, h.r1.later hb, h.r2.later hb⟩

set_option maxHeartbeats 4000000 in
set_option maxRecDepth 100000 in
theorem qag_tail {w wc : World} {ps M : List (List UInt8)} {aom : Option Addr} {capm g0 g1 g2 : Nat} {c0 c1 c2 c3 c4 c5 c8 c9 c10 c11 c12 c16 c17 c18 c19 c20 c21 c22 c23 c24 c25 c26 c27 c28 c29 c30 c31 c32 c33 c34 c35 c36 c37 c38 c39 c40 c41 c42 c43 c44 c45 c46 c47 c48 c49 c50 c51 c52 c53 c54 c55 c56 c57 c58 c59 c60 c61 c62 c63 c64 c65 c66 c67 c68 c69 c70 c71 c72 c73 c74 c75 c76 c77 c78 c79 c80 c81 c82 c83 c84 c85 c86 c87 c88 c89 c90 c91 c92 c93 c94 c95 c96 c97 c98 c99 c100 c101 c102 c103 c104 c105 c106 c107 c108 c109 c110 c111 c112 c113 c114 c115 c116 c117 c118 c119 c120 c121 c122 c123 c124 c125 c126 c127 c128 c129 c130 c131 c132 c133 c134 c135 c136 c137 c138 c139 c140 c141 c142 c143 c144 c145 c146 c147 c148 c149 c150 c151 c152 c153 c154 c155 c156 c157 c158 c159 c160 c161 c162 c163 c164 c165 c166 c167 c168 c169 c170 c171 c172 c173 c174 c175 c176 c177 c178 c179 c180 c181 c182 c183 c184 c185 c186 c187 c188 c189 c190 c191 c192 c193 c194 c195 c196 c197 c198 c199 c200 c201 c202 c203 c204 c205 c206 c207 c208 c209 c210 c211 c212 c213 c214 c215 c216 c217 c218 c219 c220 c221 c222 c223 c224 c225 c226 c227 c228 c229 c230 c231 c232 c233 c234 c235 c236 c237 c238 c239 c240 c241 c242 c243 c244 c245 c246 : Value} (hst : St w wc w.heap.size (.slice aom M.length capm) ps M M) (hsrt : Srt M) (hcp : Cp wc g0 g1 g2 ps M) (hpsb : ps.length ≤ 1000000) (hMb : M.length ≤ 256) :
    Code.wp Yatv.prog ((Yatv.f8.body.bind (restAfter 146)).getD .skip) (bodyPost Yatv.prog Yatv.f8 fun e w' => e = .returned (.bool true) ∧ Below w.heap.size w w') ⟨#[c0, c1, c2, c3, c4, c5, .pointer (some ⟨w.heap.size, 0, none⟩), .slice aom M.length capm, c8, c9, c10, c11, c12, .slice (some ⟨g0, 0, none⟩) ps.length ps.length, .slice (some ⟨g1, 0, none⟩) ps.length ps.length, .slice (some ⟨g2, 0, none⟩) ps.length ps.length, c16, c17, c18, c19, c20, c21, c22, c23, c24, c25, c26, c27, c28, c29, c30, c31, c32, c33, c34, c35, c36, c37, c38, c39, c40, c41, c42, c43, c44, c45, c46, c47, c48, c49, c50, c51, c52, c53, c54, c55, c56, c57, c58, c59, c60, c61, c62, c63, c64, c65, c66, c67, c68, c69, c70, c71, c72, c73, c74, c75, c76, c77, c78, c79, c80, c81, c82, c83, c84, c85, c86, c87, c88, c89, c90, c91, c92, c93, c94, c95, c96, c97, c98, c99, c100, c101, c102, c103, c104, c105, c106, c107, c108, c109, c110, c111, c112, c113, c114, c115, c116, c117, c118, c119, c120, c121, c122, c123, c124, c125, c126, c127, c128, c129, c130, c131, c132, c133, c134, c135, c136, c137, c138, c139, c140, c141, c142, c143, c144, c145, c146, c147, c148, c149, c150, c151, c152, c153, c154, c155, c156, c157, c158, c159, c160, c161, c162, c163, c164, c165, c166, c167, c168, c169, c170, c171, c172, c173, c174, c175, c176, c177, c178, c179, c180, c181, c182, c183, c184, c185, c186, c187, c188, c189, c190, c191, c192, c193, c194, c195, c196, c197, c198, c199, c200, c201, c202, c203, c204, c205, c206, c207, c208, c209, c210, c211, c212, c213, c214, c215, c216, c217, c218, c219, c220, c221, c222, c223, c224, c225, c226, c227, c228, c229, c230, c231, c232, c233, c234, c235, c236, c237, c238, c239, c240, c241, c242, c243, c244, c245, c246], []⟩ wc := by
  conv => arg 2; whnf
  have HST := hid hst
  have HS := hid hsrt
  have HCP := hid hcp
  obtain ⟨v0, v1, v2, hT⟩ := hst.cells
  obtain ⟨ap0, cp0, rfl, hap0, _⟩ := hT.r0.form
  obtain ⟨ap1, cp1, rfl, hap1, _⟩ := hT.r1.form
  obtain ⟨ap2, cp2, rfl, hap2, _⟩ := hT.r2.form
  have HA0 := hid hap0
  have HA1 := hid hap1
  have HA2 := hid hap2
  have HT := hid hT
  clear hst hsrt hcp hT hap0 hap1 hap2
  go_wp2
  go_loopw [20, 21, 22, 23, 24] (fun i _ _ _ _ wr => Below wc.heap.size wc wr ∧ ∃ j : Int, i = .int .i64 j ∧ -1 ≤ j ∧ j ≤ (M.length : Int) + 1) (fun i _ _ _ _ _ => ((M.length : Int) + 1 - intOf i).toNat)
  case atStart => exact ⟨Below.refl _ _, -1, rfl, Int.le_refl _, by omega⟩
  case round =>
    obtain ⟨hb, j, rfl, hj0, hj1⟩ := hrel
    have HB := hid hb
    clear hb
    have HT1 := hid (HT.out.later HB.out)
    have HST1 := hid (HST.out.later HB.out)
    by_cases hlt : j ≤ (M.length : Int)
    · go_wp2_with fail
      refine (select45 HT1.out HST1.out.inv HS.out (by omega) j (by omega) (by omega)).mono ?_
      rintro e w1 ⟨rfl, hb1⟩
      have HB1 : Hid (Below wc.heap.size wc w1) := HB.out.trans (hb1.mono HB.out.size)
      have HST2 := hid (HST.out.later HB1.out)
      clear hb1
      have hne1 : ((selS M j).toList != (selS M j).toList) = false := by simp
      have hne2 : (selB M j != selB M j) = false := by simp
      go_wp2_with (go_at_call 46; refine (expect46 HST2.out.sr (by omega) j (by omega) (by omega)).mono ?_; rintro e w' ⟨rfl, hw⟩; obtain rfl := hw.symm)
      go_roundw
      case rel => exact ⟨HB1.out, j + 1, by go_num, by omega, by omega⟩
      case measure => simp [intOf]; omega
    · have hd0 := HT1.out.c0
      have hd1 := HT1.out.c1
      have hd2 := HT1.out.c2
      have HCP1 := hid (HCP.out.later HB.out)
      go_wp2
      go_loopw [25] (fun i wx => (∃ mq, wx = wr.drewN mq) ∧ ∃ k : Nat, i = .int .i64 k ∧ k ≤ ps.length) (fun i _ => ps.length - (intOf i).toNat)
      case atStart => exact ⟨⟨0, rfl⟩, 0, rfl, Nat.zero_le _⟩
      case round =>
        obtain ⟨⟨mq, rfl⟩, k3, rfl, hk3⟩ := hrel
        by_cases hlt3 : k3 < ps.length
        · obtain ⟨q0, rfl⟩ := HA0.out (by omega)
          obtain ⟨q1, rfl⟩ := HA1.out (by omega)
          obtain ⟨q2, rfl⟩ := HA2.out (by omega)
          have C1 : Hid (∀ j, j < 26 → (wr.drewN mq).cell? ⟨q0, k3 * 26 + j, none⟩ = some (.int .i64 (nxt ps k3 j))) := fun j hj => by
            have := HT1.out.r0.cell (i := k3 * 26 + j) (by omega)
            rw [World.cell?_drewN, this, show (k3 * 26 + j) / 26 = k3 by omega, show (k3 * 26 + j) % 26 = j by omega]
          have C2 : Hid (∀ j, j < 26 → (wr.drewN mq).cell? ⟨g0, k3 * 26 + j, none⟩ = some (.int .i64 (nxt ps k3 j))) := fun j hj => by
            have := HCP1.out.r0.cell (i := k3 * 26 + j) (by omega)
            rw [World.cell?_drewN, this, show (k3 * 26 + j) / 26 = k3 by omega, show (k3 * 26 + j) % 26 = j by omega]
          have hw1 := HT1.out.r1.cell (i := k3) (by omega)
          have hw2 := HT1.out.r2.cell (i := k3) (by omega)
          have hx1 := HCP1.out.r1.cell (i := k3) (by omega)
          have hx2 := HCP1.out.r2.cell (i := k3) (by omega)
          generalize wx ps (memb M) k3 = bW at *
          generalize bx ps (cnt M) k3 = iB at *
          have hbW : (bW != bW) = false := by simp
          have hi3 : (0 : Int) ≤ (k3 : Int) := by omega
          have hi4 : (k3 : Int) < (ps.length : Int) := by omega
          go_wp2
          refine wp_region_quiet_lit (by kernel_rfl) (by kernel_rfl) ?_
          repeat (first | (go_big_quiet_step (fail)) | (refine wpQuiet_load26 rfl (.tmp 212) rfl q0 (k3 * 26) (nxt ps k3) rfl C1.out ?_; simp only [Act.put, List.setIfInBounds_toArray, List.set_cons_succ, List.set_cons_zero]) | (refine wpQuiet_load26 rfl (.tmp 216) rfl g0 (k3 * 26) (nxt ps k3) rfl C2.out ?_; simp only [Act.put, List.setIfInBounds_toArray, List.set_cons_succ, List.set_cons_zero]) | (refine wpQuiet_neq26 rfl (.tmp 213) (.tmp 217) rfl (nxt ps k3) rfl rfl ?_; simp only [Act.put, List.setIfInBounds_toArray, List.set_cons_succ, List.set_cons_zero]))
          refine wpQuiet_nil ?_
          intro _ hw'
          obtain ⟨nq, hw''⟩ := hw'
          subst hw''
          go_wp2
          go_roundw
          case rel => exact ⟨⟨_, rfl⟩, k3 + 1, by go_num, by omega⟩
          case measure => simp [intOf]; omega
        · go_wp2
          go_ret
          exact ⟨rfl, below_drews (HST1.out.below) _⟩

end Go.Proofs.Ymwhat
