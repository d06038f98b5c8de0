import Derived.Test.YmwhatInsert
set_option linter.unusedVariables false
set_option linter.unusedSimpArgs false
namespace Go.Proofs.Ymwhat
open Go.RowKit

theorem getElem_data (s : ByteArray) (i : Nat) (h : i < s.size) : s[i] = s.data.toList[i]'(by simpa using h) := rfl

theorem bx_bounds {ps S : List (List UInt8)} {f : List UInt8 → Nat} {M : Nat} (hf : ∀ p, f p ≤ M) (n : Nat) : 0 ≤ bx ps f n ∧ bx ps f n ≤ M := by
  unfold bx
  split
  · omega
  · have := hf ‹_›; omega

theorem cntTo_le (S : List (List UInt8)) (s : List UInt8) (i : Nat) (p : List UInt8) : cntTo S s i p ≤ S.length + 1 := by
  have := cnt_le S p
  unfold cntTo
  split <;> omega

set_option maxHeartbeats 2000000 in
theorem insert_new {w : World} {tb : Nat} {F : Nat → Prop} {ps S : List (List UInt8)} (h : Tr w tb F ps (memb S) (cnt S)) (hi : SInv ps S) (s : ByteArray) (hk : ps.length + s.size + 1 ≤ 1000000000) (hSl : S.length + 1 ≤ 1000000000) (hv : validB s.data.toList = true) (hb : memb S s.data.toList = false) :
    Calls Yatv.prog 14 #[.pointer (some ⟨tb,0,none⟩), .string s] w fun e w' => e = .returned (.int .i64 0) ∧ ∃ F', Tr w' tb F' (insTo ps s.data.toList s.data.toList.length) (memb (s.data.toList :: S)) (cnt (s.data.toList :: S)) ∧ Moved F F' w w' := by
  have HV := hid hv
  have HB := hid hb
  have HT := hid h
  have HI := hid hi
  obtain ⟨v0, v1, v2, hF, hT⟩ := h
  obtain ⟨ao, cap, rfl, _, _⟩ := hT.r0.form
  have hc0 := hT.c0
  have HF := hid hF
  have HTT := hid hT
  have hlen : s.data.toList.length = s.size := by simp
  clear hv hb hi hF hT
  have hs : s.size ≤ 1000000000 := by omega
  have hkk : ps.length ≤ 1000000000 := by omega
  have hext : (ext ps []).length ≤ 1000000000 := by have := length_ext ps []; omega
  have hext0 : 0 < (ext ps []).length := List.length_pos_of_mem (ext_self ps [])
  have HL := hid hlen
  clear hlen
  have hbd := bx_bounds (ps := ext ps []) (S := S) (f := cnt S) (cnt_le S) 0
  by_cases hz : ps.length = 0
  case pos =>
    have hz' : ((ps.length : Int) == 0) = true := by simp [hz]
    have HZ := hid hz
    clear hz
    go_enter Yatv.func14, Yatv.ntmps14
    go_wp2_with (first | (go_at_call 53; refine (valid_val s _ hs true HV.out).mono ?_; rintro e w' ⟨rfl, hw⟩; obtain rfl := hw.symm) | (go_at_call 19; refine (HT.out.has HI.out hkk s hs false HB.out).mono ?_; rintro e w' ⟨rfl, hw⟩; obtain rfl := hw.symm) | (go_at_call 54; refine (grow_any HTT.out hkk (fun l _ => nxt_none (by simp) l) (wx_none (by simp)) (bx_none (by simp))).mono ?_; rintro e w1 ⟨rfl, u0, u1, u2, hT1, hM1⟩; have hT2 := hT1.root HI.out HZ.out; obtain ⟨g2, c2, rfl, _, _⟩ := hT2.r2.pos hext0; have hd2 := hT2.c2; have hx := hT2.r2.cell (i := 0) (by omega); have hfx := hT2.r2.frozen 0; have HS := hid (ins_start s.data.toList HI.out hT2 (HF.out ▸ hM1)); clear hT1 hM1 hT2))
    clear hd2 hx hfx hc0
    have hB1 : S.length + 1 ≤ 1000000000 := hSl
    go_loopw [5, 6, 7, 8] (fun n i _ _ wr => ∃ (a b : Nat), n = .int .i64 a ∧ i = .int .i64 b ∧ InsRel w tb F ps S s.data.toList b a wr) (fun _ i _ _ _ => s.size - (intOf i).toNat)
    case atStart => exact ⟨0, 0, rfl, rfl, HS.out⟩
    case round =>
      obtain ⟨a, b, rfl, rfl, hb, ha, F', ⟨v0, v1, v2, rfl, hT⟩, hM⟩ := hrel
      obtain ⟨hp, hmem⟩ := insTo_inv HI.out.p s.data.toList HV.out b hb
      have hk1 : (insTo ps s.data.toList b).length ≤ ps.length + (b + 1) := length_insTo _ _ _
      have hbs : b ≤ s.size := by have := HL.out; omega
      have hal : a < (insTo ps s.data.toList b).length := by rw [ha]; exact List.idxOf_lt_length_iff.2 hmem
      obtain ⟨g0, c0, rfl, _, _⟩ := hT.r0.pos (by omega)
      obtain ⟨g1, c1, rfl, _, _⟩ := hT.r1.pos (by omega)
      obtain ⟨g2, c2, rfl, _, _⟩ := hT.r2.pos (by omega)
      have HA := hid ha
      have HP := hid hp
      have HME := hid hmem
      have HTr := hid hT
      have HM := hid hM
      clear ha hp hmem hT hM HS hb
      by_cases hlt : b < s.size
      · have hlt' : b < s.data.toList.length := by rw [HL.out]; exact hlt
        have hcv := (validB_iff _).1 HV.out s[b] (by rw [getElem_data s b hlt]; exact List.getElem_mem _)
        have hcs : s.data.toList.take (b + 1) = s.data.toList.take b ++ [s[b]] := take_succ_snoc _ _ hlt'
        have hnx : nxt (insTo ps s.data.toList b) a (s[b].toNat - 97) = if s.data.toList.take (b + 1) ∈ insTo ps s.data.toList b then (((insTo ps s.data.toList b).idxOf (s.data.toList.take (b + 1)) : Nat) : Int) else 0 := by
          rw [hcs, nxt_some (p := s.data.toList.take b) (by rw [HA.out]; exact getElem?_idxOf HME.out), ofNat_letter _ hcv.1]
        have hd0 := HTr.out.c0
        have hcell := HTr.out.r0.cell (i := a * 26 + (s[b].toNat - 97)) (by omega)
        simp only [show (a * 26 + (s[b].toNat - 97)) / 26 = a by omega, show (a * 26 + (s[b].toNat - 97)) % 26 = s[b].toNat - 97 by omega, hnx] at hcell
        clear hcs hnx
        by_cases hm : s.data.toList.take (b + 1) ∈ insTo ps s.data.toList b
        · rw [if_pos hm] at hcell
          have hml := List.idxOf_lt_length_iff.2 hm
          have hm0 : 0 < (insTo ps s.data.toList b).idxOf (s.data.toList.take (b + 1)) := HP.out.idx_pos hm (fun e => by have := congrArg List.length e; rw [List.length_take, List.length_nil] at this; omega)
          have hd2 := HTr.out.c2
          have hx := HTr.out.r2.cell (i := (insTo ps s.data.toList b).idxOf (s.data.toList.take (b + 1))) (by omega)
          have hfx := HTr.out.r2.frozen ((insTo ps s.data.toList b).idxOf (s.data.toList.take (b + 1)))
          have hbd := bx_bounds (ps := insTo ps s.data.toList b) (S := S) (f := cntTo S s.data.toList b) (cntTo_le S s.data.toList b) ((insTo ps s.data.toList b).idxOf (s.data.toList.take (b + 1)))
          have HN := hid (ins_old HI.out HV.out hlt' hm HTr.out HM.out)
          have hne : ((((insTo ps s.data.toList b).idxOf (s.data.toList.take (b + 1)) : Nat) : Int) == 0) = false := by simp; omega
          clear hm
          generalize (insTo ps s.data.toList b).idxOf (s.data.toList.take (b + 1)) = m at *
          go_wp2
          go_roundw
          case rel => exact ⟨m, b + 1, rfl, by go_num, HN.out⟩
          case measure => simp [intOf]; omega
        · rw [if_neg hm] at hcell
          have HM0 := hid hm
          clear hm
          go_wp2_with fail
          refine (grow_any HTr.out (by omega) (fun l _ => nxt_none (by simp) l) (wx_none (by simp)) (bx_none (by simp))).mono ?_
          rintro e w1 ⟨rfl, u0, u1, u2, hT1, hM1⟩
          obtain ⟨g0', c0', rfl, _, _⟩ := hT1.r0.pos (by omega)
          have hd0' := hT1.c0
          have hcell' := hT1.r0.cell (i := a * 26 + (s[b].toNat - 97)) (by omega)
          have hfr' := hT1.r0.frozen (a * 26 + (s[b].toNat - 97))
          have hT2 : T (w1.setCell ⟨g0', a * 26 + (s[b].toNat - 97), none⟩ (.int .i64 (insTo ps s.data.toList b).length)) tb _ u1 u2 (insTo ps s.data.toList (b + 1)).length _ _ _ := ins_link HI.out HV.out hlt' HM0.out HA.out hT1
          have hpos : (insTo ps s.data.toList b).length < (insTo ps s.data.toList (b + 1)).length := by simp [insTo, ext, HM0.out]
          obtain ⟨g2', c2', rfl, _, _⟩ := hT2.r2.pos (by omega)
          have hd2 := hT2.c2
          have hM2 := (HM.out.trans hM1).store (n := a * 26 + (s[b].toNat - 97)) (u := .int .i64 (insTo ps s.data.toList b).length) (show foot tb (.slice (some ⟨g0', 0, none⟩) ((insTo ps s.data.toList b).length + 1) c0') u1 _ g0' from .inr (.inl rfl))
          obtain ⟨hz0, HN⟩ := ins_new HI.out HV.out hlt' HM0.out hT2 hM2
          have HN' := hid HN
          have hx := hT2.r2.cell (i := (insTo ps s.data.toList b).length) (by omega)
          rw [hz0] at hx
          have hfx := hT1.r2.frozen (insTo ps s.data.toList b).length
          have hT2' := hid hT2
          clear hT1 hM1 hT2 hM2 hz0 HN hd0 hcell
          generalize hKK : (insTo ps s.data.toList b).length = K at *
          go_wp2
          go_roundw
          case rel => exact ⟨K, b + 1, rfl, by go_num, HN'.out⟩
          case measure => simp [intOf]; omega
      · have hbe : b = s.size := by omega
        subst hbe
        have hd1 := HTr.out.c1
        have hx := HTr.out.r1.cell (i := a) (by omega)
        have hfx := HTr.out.r1.frozen a
        go_wp2
        go_ret
        refine ⟨rfl, ?_⟩
        have hl := HL.out
        rw [← hl] at HTr HA HM
        exact ins_end HI.out HV.out HA.out HTr.out HM.out
  case neg =>
    have hz' : ((ps.length : Int) == 0) = false := by simp; exact fun e => hz (by simp [e])
    have hT2 : T w tb (.slice ao ps.length cap) v1 v2 (ext ps []).length (nxt (ext ps [])) (wx (ext ps []) (memb S)) (bx (ext ps []) (cnt S)) := by rw [ext_root_eq HI.out.p hz]; exact HTT.out
    have hM1 : Moved F (foot tb (.slice ao ps.length cap) v1 v2) w w := by rw [HF.out]; exact Moved.refl _ _
    obtain ⟨g2, c2, rfl, _, _⟩ := hT2.r2.pos hext0
    have hd2 := hT2.c2
    have hx := hT2.r2.cell (i := 0) (by omega)
    have hfx := hT2.r2.frozen 0
    have HS := hid (ins_start s.data.toList HI.out hT2 hM1)
    clear hT2 hM1 hz
    go_enter Yatv.func14, Yatv.ntmps14
    go_wp2_with (first | (go_at_call 53; refine (valid_val s _ hs true HV.out).mono ?_; rintro e w' ⟨rfl, hw⟩; obtain rfl := hw.symm) | (go_at_call 19; refine (HT.out.has HI.out hkk s hs false HB.out).mono ?_; rintro e w' ⟨rfl, hw⟩; obtain rfl := hw.symm))
    clear hd2 hx hfx hc0
    have hB1 : S.length + 1 ≤ 1000000000 := hSl
    go_loopw [5, 6, 7, 8] (fun n i _ _ wr => ∃ (a b : Nat), n = .int .i64 a ∧ i = .int .i64 b ∧ InsRel w tb F ps S s.data.toList b a wr) (fun _ i _ _ _ => s.size - (intOf i).toNat)
    case atStart => exact ⟨0, 0, rfl, rfl, HS.out⟩
    case round =>
      obtain ⟨a, b, rfl, rfl, hb, ha, F', ⟨v0, v1, v2, rfl, hT⟩, hM⟩ := hrel
      obtain ⟨hp, hmem⟩ := insTo_inv HI.out.p s.data.toList HV.out b hb
      have hk1 : (insTo ps s.data.toList b).length ≤ ps.length + (b + 1) := length_insTo _ _ _
      have hbs : b ≤ s.size := by have := HL.out; omega
      have hal : a < (insTo ps s.data.toList b).length := by rw [ha]; exact List.idxOf_lt_length_iff.2 hmem
      obtain ⟨g0, c0, rfl, _, _⟩ := hT.r0.pos (by omega)
      obtain ⟨g1, c1, rfl, _, _⟩ := hT.r1.pos (by omega)
      obtain ⟨g2, c2, rfl, _, _⟩ := hT.r2.pos (by omega)
      have HA := hid ha
      have HP := hid hp
      have HME := hid hmem
      have HTr := hid hT
      have HM := hid hM
      clear ha hp hmem hT hM HS hb
      by_cases hlt : b < s.size
      · have hlt' : b < s.data.toList.length := by rw [HL.out]; exact hlt
        have hcv := (validB_iff _).1 HV.out s[b] (by rw [getElem_data s b hlt]; exact List.getElem_mem _)
        have hcs : s.data.toList.take (b + 1) = s.data.toList.take b ++ [s[b]] := take_succ_snoc _ _ hlt'
        have hnx : nxt (insTo ps s.data.toList b) a (s[b].toNat - 97) = if s.data.toList.take (b + 1) ∈ insTo ps s.data.toList b then (((insTo ps s.data.toList b).idxOf (s.data.toList.take (b + 1)) : Nat) : Int) else 0 := by
          rw [hcs, nxt_some (p := s.data.toList.take b) (by rw [HA.out]; exact getElem?_idxOf HME.out), ofNat_letter _ hcv.1]
        have hd0 := HTr.out.c0
        have hcell := HTr.out.r0.cell (i := a * 26 + (s[b].toNat - 97)) (by omega)
        simp only [show (a * 26 + (s[b].toNat - 97)) / 26 = a by omega, show (a * 26 + (s[b].toNat - 97)) % 26 = s[b].toNat - 97 by omega, hnx] at hcell
        clear hcs hnx
        by_cases hm : s.data.toList.take (b + 1) ∈ insTo ps s.data.toList b
        · rw [if_pos hm] at hcell
          have hml := List.idxOf_lt_length_iff.2 hm
          have hm0 : 0 < (insTo ps s.data.toList b).idxOf (s.data.toList.take (b + 1)) := HP.out.idx_pos hm (fun e => by have := congrArg List.length e; rw [List.length_take, List.length_nil] at this; omega)
          have hd2 := HTr.out.c2
          have hx := HTr.out.r2.cell (i := (insTo ps s.data.toList b).idxOf (s.data.toList.take (b + 1))) (by omega)
          have hfx := HTr.out.r2.frozen ((insTo ps s.data.toList b).idxOf (s.data.toList.take (b + 1)))
          have hbd := bx_bounds (ps := insTo ps s.data.toList b) (S := S) (f := cntTo S s.data.toList b) (cntTo_le S s.data.toList b) ((insTo ps s.data.toList b).idxOf (s.data.toList.take (b + 1)))
          have HN := hid (ins_old HI.out HV.out hlt' hm HTr.out HM.out)
          have hne : ((((insTo ps s.data.toList b).idxOf (s.data.toList.take (b + 1)) : Nat) : Int) == 0) = false := by simp; omega
          clear hm
          generalize (insTo ps s.data.toList b).idxOf (s.data.toList.take (b + 1)) = m at *
          go_wp2
          go_roundw
          case rel => exact ⟨m, b + 1, rfl, by go_num, HN.out⟩
          case measure => simp [intOf]; omega
        · rw [if_neg hm] at hcell
          have HM0 := hid hm
          clear hm
          go_wp2_with fail
          refine (grow_any HTr.out (by omega) (fun l _ => nxt_none (by simp) l) (wx_none (by simp)) (bx_none (by simp))).mono ?_
          rintro e w1 ⟨rfl, u0, u1, u2, hT1, hM1⟩
          obtain ⟨g0', c0', rfl, _, _⟩ := hT1.r0.pos (by omega)
          have hd0' := hT1.c0
          have hcell' := hT1.r0.cell (i := a * 26 + (s[b].toNat - 97)) (by omega)
          have hfr' := hT1.r0.frozen (a * 26 + (s[b].toNat - 97))
          have hT2 : T (w1.setCell ⟨g0', a * 26 + (s[b].toNat - 97), none⟩ (.int .i64 (insTo ps s.data.toList b).length)) tb _ u1 u2 (insTo ps s.data.toList (b + 1)).length _ _ _ := ins_link HI.out HV.out hlt' HM0.out HA.out hT1
          have hpos : (insTo ps s.data.toList b).length < (insTo ps s.data.toList (b + 1)).length := by simp [insTo, ext, HM0.out]
          obtain ⟨g2', c2', rfl, _, _⟩ := hT2.r2.pos (by omega)
          have hd2 := hT2.c2
          have hM2 := (HM.out.trans hM1).store (n := a * 26 + (s[b].toNat - 97)) (u := .int .i64 (insTo ps s.data.toList b).length) (show foot tb (.slice (some ⟨g0', 0, none⟩) ((insTo ps s.data.toList b).length + 1) c0') u1 _ g0' from .inr (.inl rfl))
          obtain ⟨hz0, HN⟩ := ins_new HI.out HV.out hlt' HM0.out hT2 hM2
          have HN' := hid HN
          have hx := hT2.r2.cell (i := (insTo ps s.data.toList b).length) (by omega)
          rw [hz0] at hx
          have hfx := hT1.r2.frozen (insTo ps s.data.toList b).length
          have hT2' := hid hT2
          clear hT1 hM1 hT2 hM2 hz0 HN hd0 hcell
          generalize hKK : (insTo ps s.data.toList b).length = K at *
          go_wp2
          go_roundw
          case rel => exact ⟨K, b + 1, rfl, by go_num, HN'.out⟩
          case measure => simp [intOf]; omega
      · have hbe : b = s.size := by omega
        subst hbe
        have hd1 := HTr.out.c1
        have hx := HTr.out.r1.cell (i := a) (by omega)
        have hfx := HTr.out.r1.frozen a
        go_wp2
        go_ret
        refine ⟨rfl, ?_⟩
        have hl := HL.out
        rw [← hl] at HTr HA HM
        exact ins_end HI.out HV.out HA.out HTr.out HM.out

end Go.Proofs.Ymwhat
