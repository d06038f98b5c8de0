import Derived.Test.YmwhatRank
import Derived.Deep.DeepCutAuto
set_option linter.unusedVariables false
set_option linter.unusedSimpArgs false
namespace Go.Proofs.Ymwhat
open Go.RowKit

/-- The word spelled over a table. -/
def tabL (t : List UInt8) (l : List UInt8) : List UInt8 := l.map (fun c => t.getD (c.toNat % t.length) 0)
theorem tabL_length (t l : List UInt8) : (tabL t l).length = l.length := by simp [tabL]
def tcell (t l : List UInt8) (k j : Nat) : Value := if j < k then .int .u8 ((tabL t l).getD j 0).toNat else .int .u8 0

theorem tabL_getD (t l : List UInt8) (k : Nat) (h : k < l.length) : (tabL t l).getD k 0 = t.getD (l[k].toNat % t.length) 0 := by
  simp [tabL, List.getD, h]

theorem tcell_succ (t l : List UInt8) (k j : Nat) (h : k < l.length) : (if j = k then Value.int .u8 (t.getD (l[k].toNat % t.length) 0).toNat else tcell t l k j) = tcell t l (k + 1) j := by
  unfold tcell
  by_cases e : j = k
  · subst e
    rw [if_pos rfl, if_pos (by omega), tabL_getD t l j h]
  · rw [if_neg e]
    by_cases h2 : j < k
    · rw [if_pos h2, if_pos (by omega)]
    · rw [if_neg h2, if_neg (by omega)]

theorem tcell_str (t l : List UInt8) : strOfNums ((List.range l.length).map fun j => (((tabL t l).getD j 0).toNat : Int)) = bs (tabL t l) := by
  unfold strOfNums bs
  congr 2
  apply List.ext_getElem
  · simp [tabL]
  · intro i h1 h2
    have e : (tabL t l).getD i 0 = (tabL t l)[i] := by simp [List.getD, List.getElem?_eq_getElem h2]
    simp only [List.getElem_map, List.getElem_range, e]
    simp

/-- A []byte that came in, by its bytes. -/
def BytesIn (w : World) (v : Value) (l : List UInt8) : Prop :=
  ∃ ao cap, v = .slice ao l.length cap ∧ (0 < l.length → ∃ b off, ao = some ⟨b, off, none⟩ ∧ b < w.heap.size ∧ ∀ i (h : i < l.length), w.cell? ⟨b, off + i, none⟩ = some (.int .u8 l[i].toNat))

def tab5 : List UInt8 := [97, 98, 99, 100, 122]
def tab9 : List UInt8 := [97, 98, 99, 100, 122, 96, 123, 126, 65]

theorem tabL5_valid (l : List UInt8) : validB (tabL tab5 l) = true := by
  rw [validB_iff]
  intro c hc
  simp only [tabL, List.mem_map] at hc
  obtain ⟨a, _, rfl⟩ := hc
  have h5 : a.toNat % tab5.length < 5 := Nat.mod_lt _ (by decide)
  generalize a.toNat % tab5.length = r at *
  have : r = 0 ∨ r = 1 ∨ r = 2 ∨ r = 3 ∨ r = 4 := by omega
  rcases this with rfl | rfl | rfl | rfl | rfl <;> decide

theorem get_tab (t : List UInt8) (i : Nat) (h : i < (⟨t.toArray⟩ : ByteArray).size) : (⟨t.toArray⟩ : ByteArray)[i]'h = t.getD i 0 := by
  have h' : i < t.length := by simpa [ByteArray.size] using h
  show t.toArray[i]'(by simpa using h') = _
  simp [List.getD, h']

set_option maxHeartbeats 1000000 in
theorem word35 (v : Value) (l : List UInt8) (w w0 : World) (h : BytesIn w0 v l) (hb0 : Below w0.heap.size w0 w) (hs : l.length ≤ 1000000000) :
    Calls Yatv.prog 35 #[v] w fun e w' => e = .returned (.string (bs (tabL tab5 l))) ∧ Below w.heap.size w w' := by
  obtain ⟨ao, cap, rfl, hin⟩ := h
  have HIN := hid hin
  have hmk := run_make_row' (P := Yatv.prog) 60 5 (.int .u8 0) 1 Yatv.underlying60 Yatv.info5 rfl .i64 .i64 l.length (by omega) (by omega)
  have HB0 := hid hb0
  clear hin hb0
  go_enter Yatv.func35, Yatv.ntmps35
  go_wp2
  clear hmk
  go_loopw [4] (fun i wr => ∃ k : Nat, i = .int .i64 k ∧ k ≤ l.length ∧ Row wr 5 1 (.slice (some ⟨w.heap.size, 0, none⟩) l.length l.length) l.length (tcell tab5 l k) ∧ Below w.heap.size w wr) (fun i _ => l.length - (intOf i).toNat)
  case atStart =>
    refine ⟨0, rfl, Nat.zero_le _, ?_, (Below.refl _ _).alloc (Nat.le_refl _) _⟩
    exact Row.new w 5 1 l.length _ _ (by unfold maxLen; omega) (by simp [size_madeCells]) (fun i hi => by have hi' : i < l.length := (by omega); simp [madeCells, tcell, Nat.mod_one, hi'])
  case round =>
    obtain ⟨k, rfl, hk, hr, hb⟩ := hrel
    by_cases hlt : k < l.length
    · have hc := hr.cell (i := k) (by omega)
      simp only [tcell, Nat.lt_irrefl, if_false] at hc
      have hf := hr.frozen k
      obtain ⟨b, off, rfl, hbl, hin⟩ := HIN.out (by omega)
      have hin1 := hin k hlt
      have hw0 := HB0.out.size
      have hbc := (hb.cell (p := ⟨b, off + k, none⟩) (show b < w.heap.size by omega)).trans ((HB0.out.cell (p := ⟨b, off + k, none⟩) hbl).trans hin1)
      have h256 : l[k].toNat < 256 := l[k].toNat_lt
      have HR := hid (hr.set k (.int .u8 ((tab5.getD (l[k].toNat % tab5.length) 0).toNat)))
      have HB := hid hb
      clear hr hb hin hin1
      have HTS := hid (fun j => tcell_succ tab5 l k j hlt)
      generalize l[k].toNat = x at *
      have h5 : x % tab5.length < 5 := Nat.mod_lt _ (by decide)
      have HE : Hid (∀ h, (⟨#[97, 98, 99, 100, 122]⟩ : ByteArray)[x % 5]'h = tab5.getD (x % tab5.length) 0) := fun h => get_tab tab5 (x % 5) h
      generalize x % tab5.length = r at *
      go_wp2
      rw [HE.out]
      go_roundw
      case rel => exact ⟨k + 1, by go_num, by omega, HR.out.congr (fun j _ => HTS.out j), HB.out.setCell (p := ⟨w.heap.size, k, none⟩) (Nat.le_refl _) _⟩
      case measure => simp [intOf]; omega
    · obtain rfl : k = l.length := by omega
      have hcv := run_convert_bytes_arg (P := Yatv.prog) wr 60 5 Yatv.underlying60 Yatv.underlying5 w.heap.size 0 l.length l.length ((List.range l.length).map fun j => (((tabL tab5 l).getD j 0).toNat : Int)) (by simp) (fun i hi => by
        rw [Nat.zero_add, hr.cell (i := i) (by omega)]
        simp [tcell, hi]) 9 Yatv.underlying9
      rw [tcell_str] at hcv
      have HB := hid hb
      clear hr hb
      go_wp2
      go_ret
      exact ⟨rfl, HB.out⟩

/-- The script that came in: each step's number and its bytes. -/
def OpsB (w : World) (ao : Option Addr) (len : Nat) (D : Nat → Int) (V : Nat → Value) : Prop :=
  0 < len → ∃ b off, ao = some ⟨b, off, none⟩ ∧ b < w.heap.size ∧ ∀ i, i < len → w.cell? ⟨b, off + i * 2, none⟩ = some (.int .u8 (D i)) ∧ w.cell? ⟨b, off + i * 2 + 1, none⟩ = some (V i)

/-- '&Trie{}', 'var set []string'. -/
theorem St.newNil {w0 w : World} (hb : Below w0.heap.size w0 w) : St w0 (w.alloc (.cells #[.slice none 0 0, .slice none 0 0, .slice none 0 0] 30)) w.heap.size (.slice none 0 0) [] [] [] := by
  refine ⟨fun b => b = w.heap.size, ⟨Tr.new w, SInv.nil, ?_, ?_, ?_, ?_, ?_⟩⟩
  · exact Row.nil _ _ _ _
  · intro g hg; simp [Value.ownBlock] at hg
  · exact hb.alloc hb.size _
  · intro b hb2; have := hb.size; omega
  · intro g hg; simp [Value.ownBlock] at hg

theorem bless_eq : ∀ a b : List UInt8, Op.bytesLess a b = bl a b
  | _, [] => by simp [Op.bytesLess, bl]
  | [], _ :: _ => by simp [Op.bytesLess, bl]
  | a :: x, b :: y => by simp only [Op.bytesLess, bl, bless_eq x y]

theorem bless_str (x t : ByteArray) : Op.bytesLess x.toList t.toList = bl x.data.toList t.data.toList := by
  rw [ByteArray.toList_eq, ByteArray.toList_eq, bless_eq]

theorem rk_take_succ {M : List (List UInt8)} {k : Nat} (hk : k < M.length) (q x : List UInt8) (hx : x = M[k]) : rk (M.take (k + 1)) q = rk (M.take k) q + if bl x q then 1 else 0 := by
  subst hx
  unfold rk
  rw [List.take_succ_eq_append_getElem hk, List.countP_append, List.countP_singleton]

set_option maxHeartbeats 4000000 in
set_option maxRecDepth 100000 in
theorem qaf_tail {w wc : World} {ao : Option Addr} {len cap : Nat} {D : Nat → Int} {V : Nat → Value} {L : Nat → List UInt8} {Q : ByteArray} {c1 c2 c3 c4 c5 c6 c7 c9 c10 c11 c12 c13 c14 c15 c16 c17 c18 c19 c20 c21 c22 c23 c24 c25 c26 c27 c28 c29 c30 c31 c32 c33 c34 c35 c36 c37 c38 c39 c40 c41 c42 c43 c44 c45 c46 c47 c48 c49 c50 c51 c52 c53 c54 c55 c56 c57 c58 c59 c60 c61 c62 c63 c64 c65 c66 c67 c68 c69 c70 c71 c72 c73 c74 c75 c76 c77 c78 c79 c80 c81 c82 c83 c84 c85 c86 c87 c88 c89 c90 c91 c92 c93 c94 c95 c96 c97 c98 c99 c100 c101 c102 c103 c104 c105 c106 c107 c108 c109 c110 c111 c112 c113 c114 c115 c116 c117 c118 c119 c120 c121 c122 c123 c124 c125 c126 c127 c128 c129 c130 c131 c132 c133 c134 c135 c136 c137 c138 c139 c140 c141 c142 c143 c144 c145 c146 c147 c148 c149 c150 c151 c152 c153 c154 c155 c156 c157 c158 c159 c160 c161 c162 c163 c164 c165 c166 c167 c168 c169 c170 : Value} (hbc : Below w.heap.size w wc) (hops : OpsB w ao len D V) (hBI : ∀ i, i < len → BytesIn w (V i) (L i)) (hL : ∀ i, i < len → (L i).length ≤ 256) (hD0 : ∀ i, i < len → 0 ≤ D i) (hD1 : ∀ i, i < len → D i ≤ 255) (hlen : len ≤ 1024) (hQs : Q.size ≤ 4096) :
    Code.wp Yatv.prog ((Yatv.f6.body.bind (restAfter 46)).getD .skip) (bodyPost Yatv.prog Yatv.f6 fun e w' => e = .returned (.bool true) ∧ Below w.heap.size w w') ⟨#[.slice ao len cap, c1, c2, c3, c4, c5, c6, c7, .string Q, c9, c10, c11, c12, c13, c14, c15, c16, c17, c18, c19, c20, c21, c22, c23, c24, c25, c26, c27, c28, c29, c30, c31, c32, c33, c34, c35, c36, c37, c38, c39, c40, c41, c42, c43, c44, c45, c46, c47, c48, c49, c50, c51, c52, c53, c54, c55, c56, c57, c58, c59, c60, c61, c62, c63, c64, c65, c66, c67, c68, c69, c70, c71, c72, c73, c74, c75, c76, c77, c78, c79, c80, c81, c82, c83, c84, c85, c86, c87, c88, c89, c90, c91, c92, c93, c94, c95, c96, c97, c98, c99, c100, c101, c102, c103, c104, c105, c106, c107, c108, c109, c110, c111, c112, c113, c114, c115, c116, c117, c118, c119, c120, c121, c122, c123, c124, c125, c126, c127, c128, c129, c130, c131, c132, c133, c134, c135, c136, c137, c138, c139, c140, c141, c142, c143, c144, c145, c146, c147, c148, c149, c150, c151, c152, c153, c154, c155, c156, c157, c158, c159, c160, c161, c162, c163, c164, c165, c166, c167, c168, c169, c170], []⟩ wc := by
  conv => arg 2; whnf
  have HO := hid hops
  have HB := hid hBI
  have HL := hid hL
  have HD0 := hid hD0
  have HD1 := hid hD1
  have HS := hid (St.newNil hbc)
  have HBC := hid hbc
  clear hops hBI hL hD0 hD1 hbc
  go_wp2
  go_loopw [12, 13, 14, 15] (fun mo i _ _ wr => ∃ (k : Nat) (ps S : List (List UInt8)), i = .int .i64 k ∧ k ≤ len ∧ St w wr wc.heap.size mo ps S S ∧ ps.length ≤ k * 258 ∧ S.length ≤ k) (fun _ i _ _ _ => len - (intOf i).toNat)
  case atStart => exact ⟨0, [], [], rfl, Nat.zero_le _, HS.out, Nat.le_refl _, Nat.le_refl _⟩
  case round =>
    obtain ⟨k', ps, S, rfl, hk', hst, hps, hSl⟩ := hrel
    have HND := hid hst.inv.nodup
    obtain ⟨aom, capm, hmo, hao⟩ := hst.sr.form
    rw [hmo] at hst ⊢
    clear hmo
    have hcm := hst.sr.cap
    have HST := hid hst
    have HAO := hid hao
    clear hst HS hao
    by_cases hlt' : k' < len
    · have hps3 : ps.length ≤ (k' + 1) * 258 := le_step hps
      obtain ⟨b, off, rfl, hbl, hc⟩ := HO.out (by omega)
      obtain ⟨d, hdd⟩ : ∃ d : Nat, D k' = d := ⟨(D k').toNat, (Int.toNat_of_nonneg (HD0.out k' hlt')).symm⟩
      have hcb : wr.cell? ⟨b, off + k' * 2, none⟩ = some (.int .u8 d) := by rw [← hdd]; exact (HST.out.below.cell (p := ⟨b, off + k' * 2, none⟩) hbl).trans (hc k' hlt').1
      have hcs := (HST.out.below.cell (p := ⟨b, off + k' * 2 + 1, none⟩) hbl).trans (hc k' hlt').2
      have hd1 : d ≤ 255 := by have := HD1.out k' hlt'; omega
      have HBK := hid (HB.out k' hlt')
      have hLk := HL.out k' hlt'
      clear hc hdd
      go_wp2_with fail
      refine (word35 (V k') (L k') wr w HBK.out HST.out.below (by omega)).mono ?_
      rintro e w2 ⟨rfl, hb2⟩
      have HX2 := hid (HST.out.later hb2)
      have HV := hid (tabL5_valid (L k'))
      have hzl : (tabL tab5 (L k')).length ≤ 256 := by rw [tabL_length]; exact hLk
      have hcb2 := (hb2.cell (p := ⟨b, off + k' * 2, none⟩) (show b < wr.heap.size by have := HST.out.below.size; omega)).trans hcb
      generalize tabL tab5 (L k') = z at *
      clear hb2 HST hcb hcs HBK
      have hzs : (bs z).size ≤ 256 := by rw [bs_size]; exact hzl
      by_cases h2 : d % 3 = 2
      · have e2 : ((d : Int) % 3 == 2) = true := by simp; omega
        go_wp2_with fail
        refine (HX2.out.remove (bs z) (by omega) (by omega) (by omega)).mono ?_
        rintro e w3 ⟨rfl, hst3⟩
        rw [bs_data] at hst3
        have HX3 := hid hst3
        clear hst3 HX2
        by_cases hmem : z ∈ S
        · have HI := hid (idxI_nonneg hmem)
          have hjl := List.idxOf_lt_length_iff.2 hmem
          obtain ⟨g, rfl⟩ := HAO.out (by omega)
          have hel : (S.erase z).length ≤ k' + 1 := by have := List.length_erase_le (l := S) (a := z); omega
          have HE := hid (eraseIdx_idxOf (S := S) z)
          clear hmem
          have hin : ¬ ((S.idxOf z : Nat) : Int) < 0 := by omega
          generalize S.idxOf z = J at *
          go_wp2_with (first | (go_at_call 25; refine (index25 HX3.out.sr (by omega) (bs z)).mono ?_; rw [bs_data, HI.out]; rintro e w' ⟨rfl, hw⟩; obtain rfl := hw.symm) | (go_at_call 26; refine (delete26 HX3.out.sr hjl (by omega)).mono ?_; rintro e w4 ⟨rfl, hsr4, hk4⟩))
          have HX4 := hid (HX3.out.delete26 hsr4 hk4)
          rw [HE.out] at HX4
          clear hsr4 hk4
          go_wp2
          go_roundw
          case rel => exact ⟨k' + 1, ps, S.erase z, by go_num, by omega, HX4.out, hps3, hel⟩
          case measure => simp [intOf]; omega
        · have HI := hid (idxI_neg hmem)
          rw [List.erase_of_not_mem hmem] at HX3
          clear hmem
          go_wp2_with (go_at_call 25; refine (index25 HX3.out.sr (by omega) (bs z)).mono ?_; rw [bs_data, HI.out]; rintro e w' ⟨rfl, hw⟩; obtain rfl := hw.symm)
          go_roundw
          case rel => exact ⟨k' + 1, ps, S, by go_num, by omega, HX3.out, hps3, by omega⟩
          case measure => simp [intOf]; omega
      · have e2 : ((d : Int) % 3 == 2) = false := by rw [beq_eq_false_iff_ne]; omega
        go_wp2_with fail
        refine (HX2.out.insert (bs z) (by omega) (by omega) HV.out).mono ?_
        rintro e w3 ⟨rfl, hst3⟩
        rw [bs_data] at hst3
        have HT2 := hid hst3
        clear hst3 HX2
        have hSl2 := length_insS S z
        have hps2 := length_insP ps S z
        by_cases hmem : z ∈ S
        · have hmb : memb S z = true := by simp [memb, hmem]
          have HMB := hid hmb
          have HM := hid hmem
          clear hmb hmem
          go_wp2_with (go_at_call 24; refine (contains24 HT2.out.sr (by omega) (bs z)).mono ?_; rw [bs_data]; rw [HMB.out]; rintro e w' ⟨rfl, hw⟩; obtain rfl := hw.symm)
          go_roundw
          case rel =>
            refine ⟨k' + 1, insP ps S z, S, by go_num, by omega, ?_, by omega, by omega⟩
            have := HT2.out
            rw [insS, if_pos HM.out] at this
            exact this
          case measure => simp [intOf]; omega
        · have hmb : memb S z = false := by simp [memb, hmem]
          have HMB := hid hmb
          have HM := hid hmem
          clear hmb hmem
          go_wp2_with (first | (go_at_call 24; refine (contains24 HT2.out.sr (by omega) (bs z)).mono ?_; rw [bs_data]; rw [HMB.out]; rintro e w' ⟨rfl, hw⟩; obtain rfl := hw.symm) | (at_builtin; refine wpList_append_str rfl (.tmp 108) (.tmp 110) rfl Yatv.underlying31 Yatv.info9 _ S rfl (Row.alloc HT2.out.sr _) w3.heap.size z rfl ?hH ?hn ?_))
          case hH => exact heap_alloc_new _ _
          case hn => omega
          intro v' w4 hsr3 hk3 hat3
          have HT3 : Hid (St w w4 wc.heap.size v' (insP ps S z) (insS S z) (S ++ [z])) := (HT2.out.later ((Below.refl _ _).alloc (Nat.le_refl _) _)).model hk3 hsr3 (by simpa using hat3)
          clear hsr3 hk3 hat3 HT2
          go_wp2
          go_roundw
          case rel =>
            refine ⟨k' + 1, insP ps S z, insS S z, by go_num, by omega, ?_, by omega, by omega⟩
            have := HT3.out
            have e : insS S z = S ++ [z] := by rw [insS, if_neg HM.out]
            rw [e] at this ⊢
            exact this
          case measure => simp [intOf]; omega
    · have hpsb : ps.length ≤ 1000000 := by omega
      have hSb : S.length ≤ 1024 := by omega
      have HX := HST
      clear hps hSl hk' HST HO HB HL HD0 HD1 HBC
      obtain ⟨v0, v1, v2, hT⟩ := HX.out.cells
      have HTT := hid hT
      have hd0 := hT.c0
      clear hT
      go_wp2_with fail
      refine (clone16 HTT.out.r0 (fun _ => rfl) (by omega)).mono ?_
      rintro e x1 ⟨n0, rfl, hr0, hb1, _⟩
      have HTT1 := hid (HTT.out.later hb1)
      have HX1 := hid (HX.out.later hb1)
      have R0 := hid hr0
      have hd1 := HTT1.out.c1
      clear hd0 hr0 hb1 HTT HX
      go_wp2_with fail
      refine (clone17 HTT1.out.r1 (fun _ => rfl) (by omega)).mono ?_
      rintro e x2 ⟨n1, rfl, hr1, hb2, _⟩
      have HTT2 := hid (HTT1.out.later hb2)
      have HX2 := hid (HX1.out.later hb2)
      have R0' := hid (R0.out.later hb2)
      have R1 := hid hr1
      have hd2 := HTT2.out.c2
      clear hd1 hr1 hb2 HTT1 HX1 R0
      go_wp2_with fail
      refine (clone18 HTT2.out.r2 (fun _ => rfl) (by omega)).mono ?_
      rintro e x3 ⟨n2, rfl, hr2, hb3, _⟩
      have HTT3 := hid (HTT2.out.later hb3)
      have HX3 := hid (HX2.out.later hb3)
      have R0'' := hid (R0'.out.later hb3)
      have R1' := hid (R1.out.later hb3)
      have R2 := hid hr2
      clear hd2 hr2 hb3 HTT2 HX2 R0' R1
      have hd0 := HTT3.out.c0
      have hd1 := HTT3.out.c1
      have hd2 := HTT3.out.c2
      have hcle : rk S Q.data.toList ≤ S.length := List.countP_le_length
      go_wp2_with fail
      refine (rank36 HTT3.out HX3.out.inv (by omega) Q (by omega)).mono ?_
      rintro e wx ⟨rfl, hw⟩
      obtain rfl := hw.symm
      go_wp2
      go_loopw [20, 21] (fun want i wr => x3 = wr ∧ ∃ k : Nat, i = .int .i64 k ∧ k ≤ S.length ∧ want = .int .i64 (rk (S.take k) Q.data.toList)) (fun _ i _ => S.length - (intOf i).toNat)
      case atStart => exact ⟨rfl, 0, rfl, Nat.zero_le _, by simp [rk]⟩
      case round =>
        obtain ⟨rfl, k, rfl, hk, rfl⟩ := hrel
        by_cases hlt : k < S.length
        · obtain ⟨g, rfl⟩ := HAO.out (by omega)
          obtain ⟨x, hx, ex⟩ := HX3.out.sr.cell k hlt
          have HC := hid (rk_take_succ hlt Q.data.toList x.data.toList ex)
          have hcb : rk (S.take k) Q.data.toList ≤ 1024 := Nat.le_trans List.countP_le_length (by simp; omega)
          clear ex
          cases hpre : bl x.data.toList Q.data.toList
          · have HP := hid hpre
            have hbs : Op.bytesLess x.toList Q.toList = false := by rw [bless_str]; exact hpre
            clear hpre
            go_wp2
            go_roundw
            case rel =>
              refine ⟨by trivial, k + 1, by go_num, by omega, ?_⟩
              rw [HC.out, HP.out]
              simp
            case measure => simp [intOf]; omega
          · have HP := hid hpre
            have hbs : Op.bytesLess x.toList Q.toList = true := by rw [bless_str]; exact hpre
            clear hpre
            go_wp2
            go_roundw
            case rel =>
              refine ⟨by trivial, k + 1, by go_num, by omega, ?_⟩
              rw [HC.out, HP.out]
              simp
            case measure => simp [intOf]; omega
        · obtain rfl : S.length = k := by omega
          rw [List.take_length]
          have hbb : (((rk S Q.data.toList : Nat) : Int) == ((rk S Q.data.toList : Nat) : Int)) = true := by simp
          go_wp2_with (first | (go_at_call 20; refine (equal20 R0''.out HTT3.out.r0 (by omega)).mono ?_; rintro e w' ⟨rfl, m1, hw⟩; subst hw) | (go_at_call 21; refine (equal21 (w := x3.drewN _) R1'.out HTT3.out.r1 (by omega)).mono ?_; rintro e w' ⟨rfl, m2, hw⟩; rw [World.drewN_drewN] at hw; subst hw) | (go_at_call 22; refine (equal22 (w := x3.drewN _) R2.out HTT3.out.r2 (by omega)).mono ?_; rintro e w' ⟨rfl, m3, hw⟩; rw [World.drewN_drewN] at hw; subst hw))
          go_ret
          exact ⟨rfl, below_drews HX3.out.below _⟩

end Go.Proofs.Ymwhat
