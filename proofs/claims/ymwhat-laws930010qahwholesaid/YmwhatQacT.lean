import Derived.Test.YmwhatQaa
import Derived.Test.YmwhatCopy
import Derived.Deep.DeepCutAuto
set_option linter.unusedVariables false
set_option linter.unusedSimpArgs false
namespace Go.Proofs.Ymwhat
open Go.RowKit

theorem SR.cap {w : World} {ao : Option Addr} {n cap : Nat} {M : List (List UInt8)} (h : SR w (.slice ao n cap) M) : M.length ≤ cap ∧ cap ≤ 9223372036854775807 ∧ n = M.length := by
  obtain ⟨ao', cap', h1, _, h2, h3⟩ := Row.form h
  simp at h1
  unfold maxLen at h3
  omega

/-- The model's deletion in place, as a step of the law's state. -/
theorem St.delete {w0 wr : World} {tb g cap j : Nat} {ps S M : List (List UInt8)} (h : St w0 wr tb (.slice (some ⟨g, 0, none⟩) M.length cap) ps S M) (hj : j < M.length) :
    St w0 (wr.drew.setCells g j (movedS M j)) tb (.slice (some ⟨g, 0, none⟩) (j + (M.length - (j + 1))) cap) ps S (M.eraseIdx j) := by
  refine h.model ?_ (SR.delete (w := wr.drew) h.sr hj) (fun x hx => .inl hx)
  exact Kept.setCells (by rfl) _ ((Kept.refl _ _).drew) j

def endsCond (t : Nat) : Code → Bool
  | .cond (.tmp n) _ _ => n == t
  | .seq _ b => endsCond t b
  | _ => false

/-- What follows the 'if' whose test lies in slot t. -/
def restAfter (t : Nat) : Code → Option Code
  | .seq a b => if endsCond t a then some b else match restAfter t a with
    | some c => some (.seq c b)
    | none => restAfter t b
  | .block _ c => restAfter t c
  | _ => none

set_option maxHeartbeats 4000000 in
set_option maxRecDepth 100000 in
theorem qac_tail2 {w wc : World} {ps S M : List (List UInt8)} {Q : ByteArray} {aoM : Option Addr} {capM : Nat} {c0 c1 c2 c3 c4 c5 c6 c7 c10 c11 c12 c14 c16 c17 c18 c19 c20 c21 c22 c23 c24 c25 c26 c27 c28 c29 c30 c31 c32 c33 c34 c35 c36 c37 c38 c39 c40 c41 c42 c43 c44 c45 c46 c47 c48 c49 c50 c51 c52 c53 c54 c55 c56 c57 c58 c59 c60 c61 c62 c63 c64 c65 c66 c67 c68 c69 c70 c71 c72 c73 c74 c75 c76 c77 c78 c79 c80 c81 c82 c83 c84 c85 c86 c87 c88 c89 c90 c91 c92 c93 c94 c95 c96 c97 c98 c99 c100 c101 c102 c103 c104 c105 c106 c107 c108 c109 c110 c111 c112 c113 c114 c115 c116 c117 c118 c119 c120 c121 c122 c123 c124 c125 c126 c127 c128 c129 c130 c131 c132 c133 c134 c135 c136 c137 c138 c139 c140 c141 c142 c143 c144 c145 c146 c147 c148 c149 c150 c151 c152 c153 c154 c155 c156 c157 c158 c159 c160 c161 c162 c163 c164 c165 c166 c167 c168 c169 c170 c171 c172 c173 c174 c175 c176 c177 c178 c179 c180 c181 c182 c183 c184 c185 c186 c187 c188 c189 c190 c191 c192 c193 c194 c195 c196 c197 c198 c199 c200 c201 c202 c203 c204 c205 c206 c207 c208 c209 c210 c211 c212 c213 c214 c215 c216 c217 c218 c219 c220 c221 c222 c223 c224 c225 c226 c227 c228 c229 c230 c231 c232 c233 c234 c235 c236 c237 c238 c239 c240 c241 c242 c243 c244 c245 c246 c247 c248 c249 c250 c251 c252 c253 c254 c255 c256 c257 c258 c259 c260 c261 c262 c263 c264 c265 c266 c267 c268 c269 c270 c271 c272 c273 c274 c275 c276 c277 c278 c279 c280 : Value} (hst : St w wc w.heap.size (.slice aoM M.length capM) ps S M) (hMdef : S.erase Q.data.toList = M) (hpsb : ps.length ≤ 1000000) (hSb : S.length ≤ 1024) (hML : M.length ≤ 1024) (hQs : Q.size ≤ 1024) :
    Code.wp Yatv.prog ((Yatv.f9.body.bind (restAfter 106)).getD .skip) (bodyPost Yatv.prog Yatv.f9 fun e w' => e = .returned (.bool true) ∧ Below w.heap.size w w') ⟨#[c0, c1, c2, c3, c4, c5, c6, c7, .pointer (some ⟨w.heap.size, 0, none⟩), .slice aoM M.length capM, c10, c11, c12, .string Q, c14, .bool (memb S Q.data.toList), c16, c17, c18, c19, c20, c21, c22, c23, c24, c25, c26, c27, c28, c29, c30, c31, c32, c33, c34, c35, c36, c37, c38, c39, c40, c41, c42, c43, c44, c45, c46, c47, c48, c49, c50, c51, c52, c53, c54, c55, c56, c57, c58, c59, c60, c61, c62, c63, c64, c65, c66, c67, c68, c69, c70, c71, c72, c73, c74, c75, c76, c77, c78, c79, c80, c81, c82, c83, c84, c85, c86, c87, c88, c89, c90, c91, c92, c93, c94, c95, c96, c97, c98, c99, c100, c101, c102, c103, c104, c105, c106, c107, c108, c109, c110, c111, c112, c113, c114, c115, c116, c117, c118, c119, c120, c121, c122, c123, c124, c125, c126, c127, c128, c129, c130, c131, c132, c133, c134, c135, c136, c137, c138, c139, c140, c141, c142, c143, c144, c145, c146, c147, c148, c149, c150, c151, c152, c153, c154, c155, c156, c157, c158, c159, c160, c161, c162, c163, c164, c165, c166, c167, c168, c169, c170, c171, c172, c173, c174, c175, c176, c177, c178, c179, c180, c181, c182, c183, c184, c185, c186, c187, c188, c189, c190, c191, c192, c193, c194, c195, c196, c197, c198, c199, c200, c201, c202, c203, c204, c205, c206, c207, c208, c209, c210, c211, c212, c213, c214, c215, c216, c217, c218, c219, c220, c221, c222, c223, c224, c225, c226, c227, c228, c229, c230, c231, c232, c233, c234, c235, c236, c237, c238, c239, c240, c241, c242, c243, c244, c245, c246, c247, c248, c249, c250, c251, c252, c253, c254, c255, c256, c257, c258, c259, c260, c261, c262, c263, c264, c265, c266, c267, c268, c269, c270, c271, c272, c273, c274, c275, c276, c277, c278, c279, c280], []⟩ wc := by
  conv => arg 2; whnf
  have HMd := hid hMdef
  clear hMdef
  obtain ⟨F, hF⟩ := hst
  obtain ⟨v0, v1, v2, hFe, hT⟩ := hF.tr
  obtain ⟨ao0, cap0, rfl, _, _⟩ := hT.r0.form
  obtain ⟨ao1, cap1, rfl, _, _⟩ := hT.r1.form
  obtain ⟨ao2, cap2, rfl, _, _⟩ := hT.r2.form
  have hd0 := hT.c0
  have HF := hid hF
  have HT := hid hT
  clear hF hT hFe
  go_wp2_with (at_builtin; refine wpList_append_all rfl (.const (.slice none 0 0)) (.tmp 123) 26 rfl 38 _ 26 208 Yatv.underlying26 Yatv.info38 (by simp [Value.cells]) (by decide) wc.heap.size _ rfl (World.ownsRow_nil _ _ _ _) (Nat.le_refl _) _ ps.length _ rfl HT.out.r0 (fun _ => rfl) ?h63 ?hby ?_)
  case h63 => unfold maxLen; omega
  case hby => omega
  intro n0 w1 hr0 hb0 ho0
  have HF1 := hid (HF.out.later hb0)
  have HT1 := hid (HT.out.later hb0)
  have hd1 := HT1.out.c1
  have hd2 := HT1.out.c2
  have R0 := hid hr0
  have HN : Hid (∀ g, n0.ownBlock = some g → ¬ F g) := fun g hg hFg => by
    have a := ho0 g hg
    have b := HF.out.tr.lt hFg
    omega
  clear hd0 hr0 hb0 ho0 HF HT
  go_wp2_with fail
  refine (HF1.out.tr.remove HF1.out.inv Q (by omega) (by omega) (by omega)).mono ?_
  rintro e w2 ⟨rfl, F', hTr2, hM2⟩
  have HF2 := hid (HF1.out.moved hTr2 (HF1.out.inv.rem _) hM2)
  have R1 := hid (R0.out.kept hM2.kept HN.out)
  rw [HMd.out] at HF2
  clear hTr2 hM2 HF1 HT1 R0 HN hd1 hd2
  obtain ⟨z0, z1, z2, hFe2, hT2⟩ := HF2.out.tr
  obtain ⟨ap0, cp0, rfl, hap0, _⟩ := hT2.r0.form
  obtain ⟨ap1, cp1, rfl, hap1, _⟩ := hT2.r1.form
  obtain ⟨ap2, cp2, rfl, hap2, _⟩ := hT2.r2.form
  obtain ⟨apn, cpn, hn0, hapn, _⟩ := R1.out.form
  rw [hn0] at R1 ⊢
  clear hn0 hFe2
  have HA0 := hid hap0
  have HA1 := hid hap1
  have HA2 := hid hap2
  have HAN := hid hapn
  have HT2 := hid hT2
  clear hap0 hap1 hap2 hapn hT2
  have hbb : (memb S Q.data.toList != memb S Q.data.toList) = false := by simp
  have e0 := HT2.out.c0
  have e1 := HT2.out.c1
  have e2 := HT2.out.c2
  generalize memb S Q.data.toList = bQ at *
  go_wp2
  clear hbb
  -- the links are as they were
  go_loopw [21] (fun i wr => (∃ m, wr = w2.drewN m) ∧ ∃ k : Nat, i = .int .i64 k ∧ k ≤ ps.length) (fun i _ => ps.length - (intOf i).toNat)
  case atStart => exact ⟨⟨0, rfl⟩, 0, rfl, Nat.zero_le _⟩
  case round =>
    obtain ⟨⟨m, rfl⟩, k3, rfl, hk3⟩ := hrel
    by_cases hlt3 : k3 < ps.length
    · obtain ⟨g0, rfl⟩ := HA0.out (by omega)
      obtain ⟨gn, rfl⟩ := HAN.out (by omega)
      have C1 : Hid (∀ j, j < 26 → (w2.drewN m).cell? ⟨g0, k3 * 26 + j, none⟩ = some (.int .i64 (nxt ps k3 j))) := fun j hj => by
        have := HT2.out.r0.cell (i := k3 * 26 + j) (by omega)
        rw [World.cell?_drewN, this, show (k3 * 26 + j) / 26 = k3 by omega, show (k3 * 26 + j) % 26 = j by omega]
      have C2 : Hid (∀ j, j < 26 → (w2.drewN m).cell? ⟨gn, k3 * 26 + j, none⟩ = some (.int .i64 (nxt ps k3 j))) := fun j hj => by
        have := R1.out.cell (i := k3 * 26 + j) (by omega)
        rw [World.cell?_drewN, this, show (k3 * 26 + j) / 26 = k3 by omega, show (k3 * 26 + j) % 26 = j by omega]
      have hi3 : (0 : Int) ≤ (k3 : Int) := by omega
      have hi4 : (k3 : Int) < (ps.length : Int) := by omega
      go_wp2
      refine wp_region_quiet_lit (by kernel_rfl) (by kernel_rfl) ?_
      repeat (first | (go_big_quiet_step (fail)) | (refine wpQuiet_load26 rfl (.tmp 186) rfl g0 (k3 * 26) (nxt ps k3) rfl C1.out ?_; simp only [Act.put, List.setIfInBounds_toArray, List.set_cons_succ, List.set_cons_zero]) | (refine wpQuiet_load26 rfl (.tmp 190) rfl gn (k3 * 26) (nxt ps k3) rfl C2.out ?_; simp only [Act.put, List.setIfInBounds_toArray, List.set_cons_succ, List.set_cons_zero]) | (refine wpQuiet_neq26 rfl (.tmp 187) (.tmp 191) rfl (nxt ps k3) rfl rfl ?_; simp only [Act.put, List.setIfInBounds_toArray, List.set_cons_succ, List.set_cons_zero]))
      refine wpQuiet_nil ?_
      intro _ hw'
      obtain ⟨nq, hw''⟩ := hw'
      subst hw''
      go_wp2
      go_roundw
      case rel => exact ⟨⟨_, rfl⟩, k3 + 1, by go_num, by omega⟩
      case measure => simp [intOf]; omega
    · -- the arrays to count into
      have hmk1 := run_make_row' (P := Yatv.prog) 27 4 (.bool false) 1 Yatv.underlying27 Yatv.info4 rfl .i64 .i64 ps.length (by omega) (by omega)
      have hmk2 := run_make_row' (P := Yatv.prog) 28 3 (.int .i64 0) 8 Yatv.underlying28 Yatv.info3 rfl .i64 .i64 ps.length (by omega) (by omega)
      have HE := hid (Ex.new (w2.drewN m) ps (by omega))
      have HT3 : Hid (T (w2.drewN m) w.heap.size (.slice ap0 ps.length cp0) (.slice ap1 ps.length cp1) (.slice ap2 ps.length cp2) ps.length (nxt ps) (wx ps (memb M)) (bx ps (cnt M))) := ⟨HT2.out.tc, HT2.out.r0, HT2.out.r1, HT2.out.r2, HT2.out.n0, HT2.out.n1, HT2.out.n2, HT2.out.n01, HT2.out.n02, HT2.out.n12⟩
      have HSR : Hid (SR (w2.drewN m) (.slice aoM M.length capM) M) := HF2.out.sr
      have HB3 : Hid (Below w.heap.size w (w2.drewN m)) := below_drews HF2.out.below m
      have HIV := hid HF2.out.inv
      have hBB : (w2.drewN m).heap.size = w2.heap.size := rfl
      clear HT2 R1 HF2 e0 e1 e2
      go_wp2
      clear hmk1 hmk2
      have HAM : Hid (0 < M.length → ∃ g, aoM = some ⟨g, 0, none⟩) := by
        obtain ⟨ao', cap', h1, h2⟩ := HSR.out.form
        simp at h1
        rw [h1.1]
        exact h2
      -- each word of the model is counted along its path
      go_loopw [24, 25, 26, 27, 28] (fun i _ _ _ _ wr => ∃ k : Nat, i = .int .i64 k ∧ k ≤ M.length ∧ Ex (w2.drewN m) wr w2.heap.size ps.length ps (M.take k) (cnt (M.take k))) (fun i _ _ _ _ _ => M.length - (intOf i).toNat)
      case atStart => exact ⟨0, rfl, Nat.zero_le _, HE.out⟩
      case round =>
        obtain ⟨k4, rfl, hk4, hex⟩ := hrel
        have HX4 := hid hex
        clear hex HE
        by_cases hlt4 : k4 < M.length
        · obtain ⟨gM, rfl⟩ := HAM.out (by omega)
          obtain ⟨x, hx0, ex⟩ := HSR.out.cell k4 hlt4
          have hgl : gM < (w2.drewN m).heap.size := World.block_lt_of_cell? _ _ hx0
          have hx : wr.cell? ⟨gM, k4, none⟩ = some (.string x) := (HX4.out.below.cell (p := ⟨gM, k4, none⟩) hgl).trans hx0
          have hxm : x.data.toList ∈ ps := HIV.out.sub _ (ex ▸ List.getElem_mem hlt4)
          have hne : ps ≠ [] := fun e => by simp [e] at hxm
          have hnb : 0 < ps.length := List.length_pos_of_mem hxm
          have hroot : ps.idxOf [] = 0 := HIV.out.p.idx_eq (HIV.out.p.root hne)
          have hxl : x.data.toList.length = x.size := by simp
          have hb0 := HX4.out.rb.cell (i := 0) (by omega)
          have hf0 := HX4.out.rb.frozen 0
          have hbd := bx_bounds (ps := ps) (S := S) (f := cnt (M.take k4)) (M := 1024) (fun p => Nat.le_trans (cnt_le _ p) (by simp; omega)) 0
          have HX5 : Hid (Ex (w2.drewN m) (wr.setCell ⟨w2.heap.size + 1, 0, none⟩ (.int .i64 (bx ps (cnt (M.take k4)) 0 + 1))) w2.heap.size ps.length ps (M.take k4) (cntTo (M.take k4) x.data.toList 0)) := by
            have := HX4.out.count (f' := cntTo (M.take k4) x.data.toList 0) (Nat.le_of_eq hBB) HIV.out.p (HIV.out.p.nil_mem hne) (fun q => by rw [cntTo_zero])
            rw [hroot] at this
            exact this
          have hxs : x.size ≤ 1000000 := by
            have := HIV.out.p.length_lt hxm
            omega
          have EXM := hid ex
          have HXM := hid hxm
          have HXL := hid hxl
          have hnbz : ((ps.length : Int) == 0) = false := by simp; exact hne
          have HRt := hid hroot
          clear ex hx0 hxm hxl hne hroot HX4
          go_wp2
          clear hb0 hf0 hbd
          go_loopw [26, 27, 28] (fun n i _ wr => ∃ (a b : Nat), n = .int .i64 a ∧ i = .int .i64 b ∧ b ≤ x.size ∧ a = ps.idxOf (x.data.toList.take b) ∧ Ex (w2.drewN m) wr w2.heap.size ps.length ps (M.take k4) (cntTo (M.take k4) x.data.toList b)) (fun _ i _ _ => x.size - (intOf i).toNat)
          case atStart => exact ⟨0, 0, rfl, rfl, Nat.zero_le _, by rw [List.take_zero, HRt.out], HX5.out⟩
          case round =>
            obtain ⟨a, b5, rfl, rfl, hb5, ha5, hex5⟩ := hrel
            have HX6 := hid hex5
            have HA := hid ha5
            have hmem : x.data.toList.take b5 ∈ ps := HIV.out.p.prefixes (List.take_prefix _ _) HXM.out
            have hal : a < ps.length := by rw [ha5]; exact List.idxOf_lt_length_iff.2 hmem
            have HME := hid hmem
            clear hex5 ha5 HX5 hmem
            by_cases hlt5 : b5 < x.size
            · have hlt5' : b5 < x.data.toList.length := by rw [HXL.out]; exact hlt5
              have hm6 : x.data.toList.take (b5 + 1) ∈ ps := HIV.out.p.prefixes (List.take_prefix _ _) HXM.out
              have hcv := (validB_iff _).1 (HIV.out.p.letters _ HXM.out) x[b5] (by rw [getElem_data x b5 hlt5]; exact List.getElem_mem _)
              have hcs6 : x.data.toList.take (b5 + 1) = x.data.toList.take b5 ++ [x[b5]] := take_succ_snoc _ _ hlt5'
              have hnx : nxt ps a (x[b5].toNat - 97) = ((ps.idxOf (x.data.toList.take (b5 + 1)) : Nat) : Int) := by
                rw [nxt_some (p := x.data.toList.take b5) (by rw [HA.out]; exact getElem?_idxOf HME.out), ofNat_letter _ hcv.1, ← hcs6, if_pos hm6]
              obtain ⟨g0, rfl⟩ := HA0.out (by omega)
              have HT6 := hid (HT3.out.later HX6.out.below)
              have hd0 := HT6.out.c0
              have hcell := HT6.out.r0.cell (i := a * 26 + (x[b5].toNat - 97)) (by omega)
              simp only [show (a * 26 + (x[b5].toNat - 97)) / 26 = a by omega, show (a * 26 + (x[b5].toNat - 97)) % 26 = x[b5].toNat - 97 by omega, hnx] at hcell
              have hml := List.idxOf_lt_length_iff.2 hm6
              have hm0 : 0 < ps.idxOf (x.data.toList.take (b5 + 1)) := HIV.out.p.idx_pos hm6 (fun e => by have := congrArg List.length e; rw [List.length_take, List.length_nil] at this; omega)
              have hx6 := HX6.out.rb.cell (i := ps.idxOf (x.data.toList.take (b5 + 1))) (by omega)
              have hfx6 := HX6.out.rb.frozen (ps.idxOf (x.data.toList.take (b5 + 1)))
              have hbd6 := bx_bounds (ps := ps) (S := S) (f := cntTo (M.take k4) x.data.toList b5) (M := 1025) (fun p => Nat.le_trans (cntTo_le _ _ _ p) (by simp; omega)) (ps.idxOf (x.data.toList.take (b5 + 1)))
              have HN6 := hid (HX6.out.count (f' := cntTo (M.take k4) x.data.toList (b5 + 1)) (Nat.le_of_eq hBB) HIV.out.p hm6 (fun q => cntTo_succ _ _ b5 hlt5' q))
              have hi1 : (0 : Int) ≤ (b5 : Int) := by omega
              have hi2 : (b5 : Int) < (x.size : Int) := by omega
              have hi3 : (0 : Int) ≤ (a : Int) := by omega
              have hi4 : (a : Int) < (ps.length : Int) := by omega
              have HRes : Hid (∀ b, b = b5 + 1 → ps.idxOf (x.data.toList.take (b5 + 1)) = ps.idxOf (x.data.toList.take b)) := fun b e => by rw [e]
              clear hcs6 hnx hm6 HX6
              generalize ps.idxOf (x.data.toList.take (b5 + 1)) = mm at *
              have hmm1 : ¬ (mm : Int) ≤ 0 := by omega
              have hmm2 : ¬ (ps.length : Int) ≤ (mm : Int) := by omega
              go_wp2
              go_quiet (fail)
              go_wp2
              go_roundw
              case rel => exact ⟨mm, b5 + 1, rfl, by go_num, by omega, HRes.out _ rfl, HN6.out.drewN _⟩
              case measure => simp [intOf]; omega
            · obtain rfl : b5 = x.size := by omega
              have hx7 := HX6.out.rw_.cell (i := a) (by omega)
              have hfx7 := HX6.out.rw_.frozen a
              have HN7 : Hid (Ex (w2.drewN m) (wr.setCell ⟨w2.heap.size, a, none⟩ (.bool true)) w2.heap.size ps.length ps (M.take (k4 + 1)) (cnt (M.take (k4 + 1)))) := by
                have h1 := HX6.out
                have h2 := HA.out
                rw [← HXL.out] at h1 h2
                rw [List.take_length] at h2
                have := h1.mark (Nat.le_of_eq hBB) HIV.out.p HXM.out
                rw [List.take_succ_eq_append_getElem hlt4, ← EXM.out, h2]
                exact this
              clear HX6 HA HME
              go_wp2
              go_roundw
              case rel => exact ⟨k4 + 1, by go_num, by omega, HN7.out⟩
              case measure => simp [intOf]; omega
        · obtain rfl : k4 = M.length := by omega
          have HX8 := HX4
          clear HX4
          have HT8 := hid (HT3.out.later HX8.out.below)
          have hf1 := HT8.out.c1
          have hf2 := HT8.out.c2
          go_wp2
          -- node by node: the marks and the counts are the model's
          go_loopw [29] (fun i wx => (∃ mq, wx = wr.drewN mq) ∧ ∃ k : Nat, i = .int .i64 k ∧ k ≤ ps.length) (fun i _ => ps.length - (intOf i).toNat)
          case atStart => exact ⟨⟨0, rfl⟩, 0, rfl, Nat.zero_le _⟩
          case round =>
            obtain ⟨⟨mq, rfl⟩, k6, rfl, hk6⟩ := hrel
            by_cases hlt6 : k6 < ps.length
            · obtain ⟨g1, rfl⟩ := HA1.out (by omega)
              obtain ⟨g2, rfl⟩ := HA2.out (by omega)
              have q1 := HT8.out.r1.cell (i := k6) (by omega)
              have q2 := HT8.out.r2.cell (i := k6) (by omega)
              have q3 := HX8.out.rw_.cell (i := k6) (by omega)
              have q4 := HX8.out.rb.cell (i := k6) (by omega)
              rw [List.take_length] at q3 q4
              have hi3 : (0 : Int) ≤ (k6 : Int) := by omega
              have hi4 : (k6 : Int) < (ps.length : Int) := by omega
              generalize wx ps (memb M) k6 = bW at *
              generalize bx ps (cnt M) k6 = iB at *
              have hbW : (bW != bW) = false := by simp
              go_wp2
              go_quiet (fail)
              go_wp2
              go_roundw
              case rel => exact ⟨⟨_, rfl⟩, k6 + 1, by go_num, by omega⟩
              case measure => simp [intOf]; omega
            · go_wp2
              go_ret
              exact ⟨rfl, below_drews (HB3.out.trans (HX8.out.below.mono HB3.out.size)) _⟩


end Go.Proofs.Ymwhat
