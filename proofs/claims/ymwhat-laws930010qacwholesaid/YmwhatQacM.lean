import Derived.Test.YmwhatQacT
set_option linter.unusedVariables false
set_option linter.unusedSimpArgs false
namespace Go.Proofs.Ymwhat
open Go.RowKit

set_option maxHeartbeats 4000000 in
set_option maxRecDepth 100000 in
theorem qac_tail1 {w wc : World} {ps S : List (List UInt8)} {Q : ByteArray} {aom : Option Addr} {capm : Nat} {c0 c1 c2 c3 c4 c5 c6 c7 c10 c11 c12 c14 c15 c16 c17 c18 c19 c20 c21 c22 c23 c24 c25 c26 c27 c28 c29 c30 c31 c32 c33 c34 c35 c36 c37 c38 c39 c40 c41 c42 c43 c44 c45 c46 c47 c48 c49 c50 c51 c52 c53 c54 c55 c56 c57 c58 c59 c60 c61 c62 c63 c64 c65 c66 c67 c68 c69 c70 c71 c72 c73 c74 c75 c76 c77 c78 c79 c80 c81 c82 c83 c84 c85 c86 c87 c88 c89 c90 c91 c92 c93 c94 c95 c96 c97 c98 c99 c100 c101 c102 c103 c104 c105 c106 c107 c108 c109 c110 c111 c112 c113 c114 c115 c116 c117 c118 c119 c120 c121 c122 c123 c124 c125 c126 c127 c128 c129 c130 c131 c132 c133 c134 c135 c136 c137 c138 c139 c140 c141 c142 c143 c144 c145 c146 c147 c148 c149 c150 c151 c152 c153 c154 c155 c156 c157 c158 c159 c160 c161 c162 c163 c164 c165 c166 c167 c168 c169 c170 c171 c172 c173 c174 c175 c176 c177 c178 c179 c180 c181 c182 c183 c184 c185 c186 c187 c188 c189 c190 c191 c192 c193 c194 c195 c196 c197 c198 c199 c200 c201 c202 c203 c204 c205 c206 c207 c208 c209 c210 c211 c212 c213 c214 c215 c216 c217 c218 c219 c220 c221 c222 c223 c224 c225 c226 c227 c228 c229 c230 c231 c232 c233 c234 c235 c236 c237 c238 c239 c240 c241 c242 c243 c244 c245 c246 c247 c248 c249 c250 c251 c252 c253 c254 c255 c256 c257 c258 c259 c260 c261 c262 c263 c264 c265 c266 c267 c268 c269 c270 c271 c272 c273 c274 c275 c276 c277 c278 c279 c280 : Value} (hstc : St w wc w.heap.size (.slice aom S.length capm) ps S S) (hpsb : ps.length ≤ 1000000) (hSb : S.length ≤ 1024) (hQs : Q.size ≤ 1024) :
    Code.wp Yatv.prog ((Yatv.f9.body.bind (restAfter 98)).getD .skip) (bodyPost Yatv.prog Yatv.f9 fun e w' => e = .returned (.bool true) ∧ Below w.heap.size w w') ⟨#[c0, c1, c2, c3, c4, c5, c6, c7, .pointer (some ⟨w.heap.size, 0, none⟩), .slice aom S.length capm, c10, c11, c12, .string Q, c14, c15, c16, c17, c18, c19, c20, c21, c22, c23, c24, c25, c26, c27, c28, c29, c30, c31, c32, c33, c34, c35, c36, c37, c38, c39, c40, c41, c42, c43, c44, c45, c46, c47, c48, c49, c50, c51, c52, c53, c54, c55, c56, c57, c58, c59, c60, c61, c62, c63, c64, c65, c66, c67, c68, c69, c70, c71, c72, c73, c74, c75, c76, c77, c78, c79, c80, c81, c82, c83, c84, c85, c86, c87, c88, c89, c90, c91, c92, c93, c94, c95, c96, c97, c98, c99, c100, c101, c102, c103, c104, c105, c106, c107, c108, c109, c110, c111, c112, c113, c114, c115, c116, c117, c118, c119, c120, c121, c122, c123, c124, c125, c126, c127, c128, c129, c130, c131, c132, c133, c134, c135, c136, c137, c138, c139, c140, c141, c142, c143, c144, c145, c146, c147, c148, c149, c150, c151, c152, c153, c154, c155, c156, c157, c158, c159, c160, c161, c162, c163, c164, c165, c166, c167, c168, c169, c170, c171, c172, c173, c174, c175, c176, c177, c178, c179, c180, c181, c182, c183, c184, c185, c186, c187, c188, c189, c190, c191, c192, c193, c194, c195, c196, c197, c198, c199, c200, c201, c202, c203, c204, c205, c206, c207, c208, c209, c210, c211, c212, c213, c214, c215, c216, c217, c218, c219, c220, c221, c222, c223, c224, c225, c226, c227, c228, c229, c230, c231, c232, c233, c234, c235, c236, c237, c238, c239, c240, c241, c242, c243, c244, c245, c246, c247, c248, c249, c250, c251, c252, c253, c254, c255, c256, c257, c258, c259, c260, c261, c262, c263, c264, c265, c266, c267, c268, c269, c270, c271, c272, c273, c274, c275, c276, c277, c278, c279, c280], []⟩ wc := by
  conv => arg 2; whnf
  obtain ⟨i9, hi9, hz90, hz91, hz92⟩ := info_parts Yatv.info9
  have hcm := hstc.sr.cap
  have HAO : Hid (0 < S.length → ∃ g, aom = some ⟨g, 0, none⟩) := by
    obtain ⟨ao', cap', h1, h2⟩ := hstc.sr.form
    simp at h1
    rw [h1.1]
    exact h2
  have HX := hid hstc
  clear hstc
  obtain ⟨J, hJ⟩ : ∃ J : Int, idxI S Q.data.toList = J := ⟨_, rfl⟩
  have HJ := hid hJ
  have hJb : -1 ≤ J ∧ J < 1024 := by
    rw [← hJ, idxI]
    split
    · rename_i hm
      have := List.idxOf_lt_length_iff.2 hm
      omega
    · omega
  clear hJ
  go_upto_if 106 with (go_at_call 48; refine (index48 HX.out.sr (by omega) Q).mono ?_; rw [HJ.out]; rintro e w' ⟨rfl, hw⟩; obtain rfl := hw.symm)
  go_cut [9, 14, 15] (fun s9 _ s15 wx => ∃ aoM capM, s9 = .slice aoM (S.erase Q.data.toList).length capM ∧ s15 = .bool (memb S Q.data.toList) ∧ St w wx w.heap.size s9 ps S (S.erase Q.data.toList))
  case first =>
    by_cases hQ : Q.data.toList ∈ S
    · have hjl := List.idxOf_lt_length_iff.2 hQ
      obtain ⟨g, rfl⟩ := HAO.out (by omega)
      have hJ2 : J = ((S.idxOf Q.data.toList : Nat) : Int) := by rw [← HJ.out, idxI_nonneg hQ]
      subst hJ2
      have HMB : Hid (memb S Q.data.toList = true) := by show memb S _ = true; simp [memb, hQ]
      obtain ⟨A, hA, hnews, s1, s2, s3⟩ := del_ready HX.out.sr hjl hcm.1
      have HDel := hid (HX.out.delete hjl)
      rw [eraseIdx_idxOf] at HDel
      have hLen : (S.erase Q.data.toList).length = S.idxOf Q.data.toList + (S.length - (S.idxOf Q.data.toList + 1)) := by rw [List.length_erase_of_mem hQ]; omega
      have HLen := hid hLen
      clear hLen hQ HJ hJb
      generalize hJ : S.idxOf Q.data.toList = J at *
      clear hJ
      have hic : J ≤ capm := by omega
      have hwr : IntKind.i64.wrap ((J : Int) + 1) = (J : Int) + 1 := by rw [IntKind.wrap_i64]; omega
      have hp0 : (0 : Int) ≤ (J : Int) + 1 := by omega
      have hp1 : (J : Int) + 1 ≤ (S.length : Int) := by omega
      have hp2 : ((J : Int) + 1).toNat = J + 1 := by omega
      have hp3 : J + (S.length - (J + 1)) ≤ capm := by omega
      have hp4 : (0 : Int) ≤ (J : Int) := by omega
      have hp5 : (J : Int) ≤ (capm : Int) := by omega
      go_wp2_with fail
      go_region_law (refine step_append_room rfl (.tmp 109) (.tmp 113) 31 rfl 9 i9 1 Yatv.underlying31 hi9 hz91 g 0 J capm (by simp [Act.eval, Act.put]) A (S.length - (J + 1)) (capm - (J + 1)) (movedS S J) (by simp [Act.eval, Act.put]) s1.out hnews.out s2.out hp3 s3.out ?_)
      go_wp2
      go_meet
      case rel =>
        refine ⟨some ⟨g, 0, none⟩, capm, by rw [HLen.out], (by rw [HMB.out]; try rfl), ?_⟩
        have := HDel.out
        simpa using this
    · have hJ2 : J = -1 := by rw [← HJ.out, idxI_neg hQ]
      subst hJ2
      have HMB : Hid (memb S Q.data.toList = false) := by show memb S _ = false; simp [memb, hQ]
      have HE : Hid (S.erase Q.data.toList = S) := List.erase_of_not_mem hQ
      clear hQ HJ hJb
      go_wp2
      go_meet
      case rel => exact ⟨aom, capm, by rw [HE.out], (by rw [HMB.out]; try rfl), by rw [HE.out]; exact HX.out⟩
  case rest =>
    rename_i hK
    obtain ⟨aoM, capM, rfl, rfl, hst⟩ := hcut
    have hML : (S.erase Q.data.toList).length ≤ 1024 := by have := List.length_erase_le (l := S) (a := Q.data.toList); omega
    exact hK _ _ (qac_tail2 hst rfl hpsb hSb hML hQs)

end Go.Proofs.Ymwhat
