import Derived.Test.YmwhatQabP
import Derived.Deep.DeepCutAuto
set_option linter.unusedVariables false
set_option linter.unusedSimpArgs false
namespace Go.Proofs.Ymwhat
open Go.RowKit

theorem St2.cells {w0 wr : World} {tb mb : Nat} {ps S qs R : List (List UInt8)} (h : St2 w0 wr tb mb ps S qs R) : (∃ v0 v1 v2, T wr tb v0 v1 v2 ps.length (nxt ps) (wx ps (memb S)) (bx ps (cnt S))) ∧ ∃ u0 u1 u2, M3 wr mb u0 u1 u2 qs.length qs.length qs.length (pth qs) (wx qs (memb R)) (bx qs (cnt R)) := by
  obtain ⟨F, G, h⟩ := h
  obtain ⟨v0, v1, v2, _, h1⟩ := h.tr
  obtain ⟨u0, u1, u2, _, h2⟩ := h.mo
  exact ⟨⟨v0, v1, v2, h1⟩, u0, u1, u2, h2⟩

theorem M3.drewN {w : World} {mb k0 k1 k2 : Nat} {v0 v1 v2 : Value} {P : Nat → Value} {W : Nat → Bool} {B : Nat → Int} (h : M3 w mb v0 v1 v2 k0 k1 k2 P W B) (m : Nat) : M3 (w.drewN m) mb v0 v1 v2 k0 k1 k2 P W B := ⟨h.tc, h.r0, h.r1, h.r2, h.n0, h.n1, h.n2, h.n01, h.n02, h.n12⟩

/-- A node that is not the root hangs on its parent. -/
theorem parent_link {ps : List (List UInt8)} (h : PInv ps) {k m : Nat} (hk : k < ps.length) (hk0 : 0 < k) {x : ByteArray} (hx : x.data.toList = ps[k]) (hm : x.size = m + 1) (hmlt : m < x.size) : x.data.toList.take m ∈ ps ∧ 97 ≤ (x[m]'hmlt).toNat ∧ (x[m]'hmlt).toNat ≤ 122 ∧ nxt ps (ps.idxOf (x.data.toList.take m)) ((x[m]'hmlt).toNat - 97) = (k : Nat) := by
  have hlen : x.data.toList.length = m + 1 := by simpa using hm
  have hmem : x.data.toList ∈ ps := hx ▸ List.getElem_mem hk
  have hmx : m < x.data.toList.length := by omega
  have hxs : x.data.toList = x.data.toList.take m ++ [x[m]'hmlt] := by
    have h1 := take_succ_snoc x.data.toList m hmx
    rw [List.take_of_length_le (by omega)] at h1
    exact h1
  have hc := (validB_iff _).1 (h.letters _ hmem) (x[m]'hmlt) (by rw [hxs]; simp)
  have hp : x.data.toList.take m ∈ ps := h.prefixes (List.take_prefix _ _) hmem
  refine ⟨hp, hc.1, hc.2, ?_⟩
  rw [nxt_some (getElem?_idxOf hp), ofNat_letter _ hc.1, ← hxs, if_pos hmem]
  congr 1
  exact h.idx_eq (by rw [hx]; exact List.getElem?_eq_getElem hk)

theorem node_pos {ps : List (List UInt8)} (h : PInv ps) {k : Nat} (hk : k < ps.length) (hk0 : 0 < k) {x : ByteArray} (hx : x.data.toList = ps[k]) : 0 < x.size := by
  rcases Nat.eq_zero_or_pos x.size with e | e
  · have hnil : x.data.toList = [] := List.eq_nil_of_length_eq_zero (by simpa using e)
    have hr := h.root (fun e => by simp [e] at hk)
    have h1 := h.idx_eq hr
    have h2 := h.idx_eq (List.getElem?_eq_getElem hk)
    rw [← hx, hnil, h1] at h2
    omega
  · exact e

set_option maxHeartbeats 4000000 in
set_option maxRecDepth 100000 in
theorem qab_tail2 {w wc : World} {tb mb : Nat} {ps S : List (List UInt8)} {c0 c1 c2 c3 c4 c5 c6 c7 c10 c11 c12 c13 c14 c15 c16 c17 c18 c19 c20 c21 c22 c23 c24 c25 c26 c27 c28 c29 c30 c31 c32 c33 c34 c35 c36 c37 c38 c39 c40 c41 c42 c43 c44 c45 c46 c47 c48 c49 c50 c51 c52 c53 c54 c55 c56 c57 c58 c59 c60 c61 c62 c63 c64 c65 c66 c67 c68 c69 c70 c71 c72 c73 c74 c75 c76 c77 c78 c79 c80 c81 c82 c83 c84 c85 c86 c87 c88 c89 c90 c91 c92 c93 c94 c95 c96 c97 c98 c99 c100 c101 c102 c103 c104 c105 c106 c107 c108 c109 c110 c111 c112 c113 c114 c115 c116 c117 c118 c119 c120 c121 c122 c123 c124 c125 c126 c127 c128 c129 c130 c131 c132 c133 c134 c135 c136 c137 c138 c139 c140 c141 c142 c143 c144 c145 c146 c147 c148 c149 c150 c151 c152 c153 c154 c155 c156 c157 c158 c159 c160 c161 c162 c163 c164 c165 c166 c167 c168 c169 c170 c171 c172 c173 c174 c175 c176 c177 c178 c179 c180 c181 c182 c183 c184 c185 c186 c187 c188 c189 c190 c191 c192 c193 c194 c195 c196 c197 c198 c199 c200 c201 c202 c203 c204 c205 c206 c207 c208 c209 c210 c211 c212 c213 c214 c215 c216 c217 c218 c219 c220 : Value} (hst : St2 w wc tb mb ps S ps S) (hpsb : ps.length ≤ 100000) :
    Code.wp Yatv.prog ((Yatv.f10.body.bind (restAfter 91)).getD .skip) (bodyPost Yatv.prog Yatv.f10 fun e w' => e = .returned (.bool true) ∧ Below w.heap.size w w') ⟨#[c0, c1, c2, c3, c4, c5, c6, c7, .pointer (some ⟨tb, 0, none⟩), .pointer (some ⟨mb, 0, none⟩), c10, c11, c12, c13, c14, c15, c16, c17, c18, c19, c20, c21, c22, c23, c24, c25, c26, c27, c28, c29, c30, c31, c32, c33, c34, c35, c36, c37, c38, c39, c40, c41, c42, c43, c44, c45, c46, c47, c48, c49, c50, c51, c52, c53, c54, c55, c56, c57, c58, c59, c60, c61, c62, c63, c64, c65, c66, c67, c68, c69, c70, c71, c72, c73, c74, c75, c76, c77, c78, c79, c80, c81, c82, c83, c84, c85, c86, c87, c88, c89, c90, c91, c92, c93, c94, c95, c96, c97, c98, c99, c100, c101, c102, c103, c104, c105, c106, c107, c108, c109, c110, c111, c112, c113, c114, c115, c116, c117, c118, c119, c120, c121, c122, c123, c124, c125, c126, c127, c128, c129, c130, c131, c132, c133, c134, c135, c136, c137, c138, c139, c140, c141, c142, c143, c144, c145, c146, c147, c148, c149, c150, c151, c152, c153, c154, c155, c156, c157, c158, c159, c160, c161, c162, c163, c164, c165, c166, c167, c168, c169, c170, c171, c172, c173, c174, c175, c176, c177, c178, c179, c180, c181, c182, c183, c184, c185, c186, c187, c188, c189, c190, c191, c192, c193, c194, c195, c196, c197, c198, c199, c200, c201, c202, c203, c204, c205, c206, c207, c208, c209, c210, c211, c212, c213, c214, c215, c216, c217, c218, c219, c220], []⟩ wc := by
  conv => arg 2; whnf
  have HIV := hid hst.it
  have HB := hid hst.below
  obtain ⟨⟨v0, v1, v2, hT⟩, u0, u1, u2, hM⟩ := hst.cells
  obtain ⟨ap0, cp0, rfl, hap0, _⟩ := hT.r0.form
  obtain ⟨ap1, cp1, rfl, hap1, _⟩ := hT.r1.form
  obtain ⟨ap2, cp2, rfl, hap2, _⟩ := hT.r2.form
  obtain ⟨am0, cm0, rfl, ham0, _⟩ := hM.r0.form
  obtain ⟨am1, cm1, rfl, ham1, _⟩ := hM.r1.form
  obtain ⟨am2, cm2, rfl, ham2, _⟩ := hM.r2.form
  have HA0 := hid hap0
  have HA1 := hid hap1
  have HA2 := hid hap2
  have HB0 := hid ham0
  have HB1 := hid ham1
  have HB2 := hid ham2
  have hd0 := hT.c0
  have hd1 := hT.c1
  have hd2 := hT.c2
  have he0 := hM.c0
  have he1 := hM.c1
  have he2 := hM.c2
  have HT := hid hT
  have HM := hid hM
  clear hst hT hM hap0 hap1 hap2 ham0 ham1 ham2
  go_wp2
  go_loopw [16, 17, 18, 19, 20] (fun nz n _ _ _ wx => (∃ mq, wx = wc.drewN mq) ∧ ∃ k : Nat, n = .int .i64 k ∧ k ≤ ps.length ∧ nz = .int .i64 (cntN ps k)) (fun _ n _ _ _ _ => ps.length - (intOf n).toNat)
  case atStart => exact ⟨⟨0, rfl⟩, 0, rfl, Nat.zero_le _, rfl⟩
  case round =>
    obtain ⟨⟨mq, rfl⟩, k, rfl, hk, rfl⟩ := hrel
    have hcn := cntN_le ps k
    by_cases hlt : k < ps.length
    · obtain ⟨q0, rfl⟩ := HA0.out (by omega)
      obtain ⟨q1, rfl⟩ := HA1.out (by omega)
      obtain ⟨q2, rfl⟩ := HA2.out (by omega)
      obtain ⟨r0, rfl⟩ := HB0.out (by omega)
      obtain ⟨r1, rfl⟩ := HB1.out (by omega)
      obtain ⟨r2, rfl⟩ := HB2.out (by omega)
      have hw1 := HT.out.r1.cell (i := k) (by omega)
      have hw2 := HT.out.r2.cell (i := k) (by omega)
      have hx1 := HM.out.r1.cell (i := k) (by omega)
      have hx2 := HM.out.r2.cell (i := k) (by omega)
      generalize wx ps (memb S) k = bW at *
      generalize bx ps (cnt S) k = iB at *
      have hbW : (bW != bW) = false := by simp
      have hi3 : (0 : Int) ≤ (k : Int) := by omega
      have hi4 : (k : Int) < (ps.length : Int) := by omega
      go_wp2
      go_quiet (fail)
      go_wp2
      clear hw1 hw2 hx1 hx2 hbW
      go_loopw [16, 18] (fun nz l wy => (∃ mq, wy = wc.drewN mq) ∧ ∃ L : Nat, l = .int .i64 L ∧ L ≤ 26 ∧ nz = .int .i64 ((cntN ps k + rowN ps k L : Nat) : Int)) (fun _ l _ => 26 - (intOf l).toNat)
      case atStart => exact ⟨⟨_, World.drewN_drewN _ _ _⟩, 0, rfl, Nat.zero_le _, rfl⟩
      case round =>
        obtain ⟨⟨mq2, rfl⟩, L, rfl, hL, rfl⟩ := hrel
        have hrw := rowN_le ps k L
        by_cases hL2 : L < 26
        · have hcell := HT.out.r0.cell (i := k * 26 + L) (by omega)
          rw [show (k * 26 + L) / 26 = k by omega, show (k * 26 + L) % 26 = L by omega] at hcell
          by_cases hz : nxt ps k L = 0
          · have HRN : Hid (rowN ps k (L + 1) = rowN ps k L) := by show _ = _; rw [rowN, if_pos hz]; rfl
            rw [hz] at hcell
            clear hz
            go_wp2
            go_roundw
            case rel => exact ⟨⟨_, rfl⟩, L + 1, by go_num, by omega, by rw [HRN.out]⟩
            case measure => simp [intOf]; omega
          · have HRN : Hid (rowN ps k (L + 1) = rowN ps k L + 1) := by show _ = _; rw [rowN, if_neg hz]
            have hz' : (nxt ps k L != 0) = true := by simp [hz]
            clear hz
            generalize nxt ps k L = nv at *
            generalize rowN ps k L = rv at *
            generalize cntN ps k = cv at *
            go_wp2
            go_roundw
            case rel => exact ⟨⟨_, rfl⟩, L + 1, by go_num, by omega, by rw [HRN.out]; go_num⟩
            case measure => simp [intOf]; omega
        · obtain rfl : L = 26 := by omega
          have HNX : Hid (cntN ps k + rowN ps k 26 = cntN ps (k + 1)) := rfl
          by_cases hk0 : 0 < k
          · have hk0' : (0 : Int) < (k : Int) := by omega
            obtain ⟨x, hx, ex⟩ := HM.out.sr.cell k hlt
            have hxp := node_pos HIV.out.p hlt hk0 ex
            obtain ⟨m, hm⟩ : ∃ m, x.size = m + 1 := ⟨x.size - 1, by omega⟩
            have hm6 : m < x.size := by omega
            obtain ⟨hp1, hp2, hp3, hp4⟩ := parent_link HIV.out.p hlt hk0 ex hm hm6
            obtain ⟨xb, hxb⟩ : ∃ xb, x.extract 0 m = xb := ⟨_, rfl⟩
            have HX : Hid (xb.data.toList = x.data.toList.take m) := by rw [← hxb]; exact extract_toList x m
            have HIJ := hid (idxI_nonneg hp1)
            have hjl := List.idxOf_lt_length_iff.2 hp1
            have hcell := HT.out.r0.cell (i := ps.idxOf (x.data.toList.take m) * 26 + (x[m].toNat - 97)) (by omega)
            rw [show (ps.idxOf (x.data.toList.take m) * 26 + (x[m].toNat - 97)) / 26 = ps.idxOf (x.data.toList.take m) by omega, show (ps.idxOf (x.data.toList.take m) * 26 + (x[m].toNat - 97)) % 26 = x[m].toNat - 97 by omega, hp4] at hcell
            have hxl : x.size ≤ 100000 := by
              have h1 := HIV.out.p.length_lt (ex ▸ List.getElem_mem hlt)
              have h2 : x.data.toList.length = x.size := by simp
              omega
            have h256 : x[m].toNat < 256 := x[m].toNat_lt
            have HE := hid ex
            have HM2 := hid (HM.out.drewN mq2)
            clear hp1 hp4 ex
            rw [HNX.out]
            generalize ps.idxOf (x.data.toList.take m) = J at *
            have hJ : ¬ (J : Int) < 0 := by omega
            have hj3 : (0 : Int) ≤ (J : Int) := by omega
            have hj4 : (J : Int) < (ps.length : Int) := by omega
            have hkk : ((k : Int) != (k : Int)) = false := by simp
            have hx0 : ((x.size : Int) == 0) = false := by rw [beq_eq_false_iff_ne]; omega
            have hm3 : (0 : Int) ≤ (m : Int) := by omega
            have hm4 : (m : Int) < (x.size : Int) := by omega
            have hm5 : m ≤ x.size := by omega
            have hsub : (x.size : Int) - 1 = (m : Int) := by omega
            clear hm
            go_wp2_with (go_at_call 52; refine (index52 HM2.out (by omega) xb).mono ?_; rw [HX.out, HIJ.out]; rintro e w' ⟨rfl, hw⟩; obtain rfl := hw.symm)
            go_quiet (fail)
            go_wp2
            go_roundw
            case rel => exact ⟨⟨_, rfl⟩, k + 1, by go_num, by omega, rfl⟩
            case measure => simp [intOf]; omega
          · obtain rfl : k = 0 := by omega
            rw [HNX.out]
            go_wp2
            go_roundw
            case rel => exact ⟨⟨_, rfl⟩, 1, rfl, by omega, rfl⟩
            case measure => simp [intOf]; omega
    · obtain rfl : ps.length = k := by omega
      by_cases hz : ps.length = 0
      · have hz' : decide ((0 : Int) < (ps.length : Int)) = false := decide_eq_false (by omega)
        go_wp2
        go_ret
        exact ⟨rfl, below_drews HB.out _⟩
      · have hz' : decide ((0 : Int) < (ps.length : Int)) = true := decide_eq_true (by omega)
        have hca := cntN_all HIV.out.p (by omega)
        have hcb : (((cntN ps ps.length : Nat) : Int) != (ps.length : Int) - 1) = false := by
          rw [hca]
          simp
          omega
        clear hca hz
        go_wp2
        all_goals
          go_ret
          exact ⟨rfl, below_drews HB.out _⟩

end Go.Proofs.Ymwhat
