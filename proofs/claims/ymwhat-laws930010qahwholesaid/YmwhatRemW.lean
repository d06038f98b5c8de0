import Derived.Test.YmwhatRem
set_option linter.unusedVariables false
set_option linter.unusedSimpArgs false
namespace Go.Proofs.Ymwhat
open Go.RowKit

theorem RemRel.drewN {w : World} {tb : Nat} {F : Nat → Prop} {ps S : List (List UInt8)} {s : List UInt8} {i n : Nat} {wr : World} (h : RemRel w tb F ps S s i n wr) (m : Nat) : RemRel w tb F ps S s i n (wr.drewN m) := by
  obtain ⟨h1, h2, ⟨v0, v1, v2, hF, hT⟩, hM⟩ := h
  exact ⟨h1, h2, ⟨v0, v1, v2, hF, ⟨hT.tc, hT.r0, hT.r1, hT.r2, hT.n0, hT.n1, hT.n2, hT.n01, hT.n02, hT.n12⟩⟩, ⟨⟨hM.kept.os, hM.kept.tape, hM.kept.output, hM.kept.size, hM.kept.block⟩, hM.sub⟩⟩

theorem cntRem_le (S : List (List UInt8)) (s : List UInt8) (i : Nat) (p : List UInt8) : cntRem S s i p ≤ S.length := by
  have := cnt_le S p
  unfold cntRem
  omega

set_option maxHeartbeats 1000000 in
theorem remove_yes {w : World} {tb : Nat} {F : Nat → Prop} {ps S : List (List UInt8)} (h : Tr w tb F ps (memb S) (cnt S)) (hi : SInv ps S) (s : ByteArray) (hk : ps.length ≤ 1000000000) (hs : s.size ≤ 1000000000) (hSl : S.length ≤ 1000000000) (hb : memb S s.data.toList = true) :
    Calls Yatv.prog 12 #[.pointer (some ⟨tb,0,none⟩), .string s] w fun e w' => e = .returned (.bool true) ∧ Tr w' tb F ps (memb (S.erase s.data.toList)) (cnt (S.erase s.data.toList)) ∧ Moved F F w w' := by
  have HB := hid hb
  have hmemS : s.data.toList ∈ S := by simpa [memb] using hb
  have HS := hid hmemS
  have HT := hid h
  have HI := hid hi
  have hk0 : 0 < ps.length := List.length_pos_of_mem (hi.sub _ hmemS)
  obtain ⟨v0, v1, v2, hF, hT⟩ := h
  obtain ⟨g2, c2, rfl, _, _⟩ := hT.r2.pos hk0
  have hd2 := hT.c2
  have hx := hT.r2.cell (i := 0) (by omega)
  have hfx := hT.r2.frozen 0
  have hbd := bx_bounds (ps := ps) (S := S) (f := cnt S) (cnt_le S) 0
  have HST := hid (rem_start s.data.toList hi hmemS hF hT)
  have hlen : s.data.toList.length = s.size := by simp
  have HL := hid hlen
  clear hb hi hF hT hmemS hlen
  go_enter Yatv.func12, Yatv.ntmps12
  go_wp2_with (go_at_call 19; refine (HT.out.has HI.out hk s hs true HB.out).mono ?_; rintro e w' ⟨rfl, hw⟩; obtain rfl := hw.symm)
  clear hd2 hx hfx hbd
  go_loopw [5, 6] (fun n i wr => ∃ (a b : Nat), n = .int .i64 a ∧ i = .int .i64 b ∧ RemRel w tb F ps S s.data.toList b a wr) (fun _ i _ => s.size - (intOf i).toNat)
  case atStart => exact ⟨0, 0, rfl, rfl, HST.out⟩
  case round =>
    obtain ⟨a, b, rfl, rfl, hb, ha, ⟨v0, v1, v2, hF, hT⟩, hM⟩ := hrel
    have hmem : s.data.toList.take b ∈ ps := HI.out.p.prefixes (List.take_prefix _ _) (HI.out.sub _ HS.out)
    have hbs : b ≤ s.size := by have := HL.out; omega
    have hal : a < ps.length := by rw [ha]; exact List.idxOf_lt_length_iff.2 hmem
    obtain ⟨g0, c0, rfl, _, _⟩ := hT.r0.pos (by omega)
    obtain ⟨g1, c1, rfl, _, _⟩ := hT.r1.pos (by omega)
    obtain ⟨g2, c2, rfl, _, _⟩ := hT.r2.pos (by omega)
    have HA := hid ha
    have HME := hid hmem
    have HTr := hid hT
    have HM := hid hM
    have HF := hid hF
    clear ha hmem hT hM HST hb hF
    by_cases hlt : b < s.size
    · have hlt' : b < s.data.toList.length := by rw [HL.out]; exact hlt
      have hm : s.data.toList.take (b + 1) ∈ ps := HI.out.p.prefixes (List.take_prefix _ _) (HI.out.sub _ HS.out)
      have hcv := (validB_iff _).1 (HI.out.p.letters _ (HI.out.sub _ HS.out)) s[b] (by rw [getElem_data s b hlt]; exact List.getElem_mem _)
      have hcs : s.data.toList.take (b + 1) = s.data.toList.take b ++ [s[b]] := take_succ_snoc _ _ hlt'
      have hnx : nxt ps a (s[b].toNat - 97) = ((ps.idxOf (s.data.toList.take (b + 1)) : Nat) : Int) := by
        rw [nxt_some (p := s.data.toList.take b) (by rw [HA.out]; exact getElem?_idxOf HME.out), ofNat_letter _ hcv.1, ← hcs, if_pos hm]
      have hd0 := HTr.out.c0
      have hcell := HTr.out.r0.cell (i := a * 26 + (s[b].toNat - 97)) (by omega)
      simp only [show (a * 26 + (s[b].toNat - 97)) / 26 = a by omega, show (a * 26 + (s[b].toNat - 97)) % 26 = s[b].toNat - 97 by omega, hnx] at hcell
      have hml := List.idxOf_lt_length_iff.2 hm
      have hd2 := HTr.out.c2
      have hx := HTr.out.r2.cell (i := ps.idxOf (s.data.toList.take (b + 1))) (by omega)
      have hfx := HTr.out.r2.frozen (ps.idxOf (s.data.toList.take (b + 1)))
      have hbd := bx_bounds (ps := ps) (S := S) (f := cntRem S s.data.toList b) (cntRem_le S s.data.toList b) (ps.idxOf (s.data.toList.take (b + 1)))
      have HN := hid (rem_step HI.out HS.out hlt' HF.out HTr.out HM.out)
      have hi1 : (0 : Int) ≤ (b : Int) := by omega
      have hi2 : (b : Int) < (s.size : Int) := by omega
      have hi3 : (0 : Int) ≤ (a : Int) := by omega
      have hi4 : (a : Int) < (ps.length : Int) := by omega
      clear hcs hnx hm
      generalize ps.idxOf (s.data.toList.take (b + 1)) = m at *
      go_wp2
      go_quiet (fail)
      go_wp2
      go_roundw
      case rel => exact ⟨m, b + 1, rfl, by go_num, HN.out.drewN _⟩
      case measure => simp [intOf]; omega
    · have hbe : b = s.size := by omega
      subst hbe
      have hd1 := HTr.out.c1
      have hx := HTr.out.r1.cell (i := a) (by omega)
      have hfx := HTr.out.r1.frozen a
      go_wp2
      go_ret
      refine ⟨rfl, ?_⟩
      have hl := HL.out
      rw [← hl] at HTr HA
      exact rem_end HI.out HS.out HA.out HF.out HTr.out HM.out

end Go.Proofs.Ymwhat
