import Derived.Test.YmwhatMd
set_option linter.unusedVariables false
set_option linter.unusedSimpArgs false
namespace Go.Proofs.Ymwhat
open Go.RowKit

/-- The nodes when the beginnings of fewer than b letters have been put in. -/
def mst (ps : List (List UInt8)) (s : List UInt8) : Nat → List (List UInt8)
  | 0 => ps
  | b + 1 => insTo ps s b
def cntM (S : List (List UInt8)) (s : List UInt8) : Nat → List UInt8 → Nat
  | 0 => cnt S
  | b + 1 => cntTo S s b

theorem mst_succ (ps : List (List UInt8)) (s : List UInt8) (b : Nat) : mst ps s (b + 1) = ext (mst ps s b) (s.take b) := by
  cases b with
  | zero => simp [mst, insTo]
  | succ b => rfl

theorem cntM_succ (S : List (List UInt8)) (s : List UInt8) (b : Nat) (hb : b ≤ s.length) (q : List UInt8) : cntM S s (b + 1) q = if q = s.take b then cntM S s b q + 1 else cntM S s b q := by
  cases b with
  | zero => simp only [cntM, List.take_zero]; exact cntTo_zero S s q
  | succ b => exact cntTo_succ S s b (by omega) q

theorem cntM_le (S : List (List UInt8)) (s : List UInt8) (b : Nat) (q : List UInt8) : cntM S s b q ≤ S.length + 1 := by
  cases b with
  | zero => have := cnt_le S q; simp only [cntM]; omega
  | succ b => exact cntTo_le S s b q

theorem length_mst (ps : List (List UInt8)) (s : List UInt8) (b : Nat) : (mst ps s b).length ≤ ps.length + b := by
  cases b with
  | zero => simp [mst]
  | succ b => exact length_insTo ps s b

theorem mst_inv {ps : List (List UInt8)} (h : PInv ps) (s : List UInt8) (hs : validB s = true) (b : Nat) (hb : b ≤ s.length) : PInv (mst ps s (b + 1)) ∧ s.take b ∈ mst ps s (b + 1) := insTo_inv h s hs b hb

theorem mst_sub {ps : List (List UInt8)} {s q : List UInt8} (b : Nat) (h : q ∈ ps) : q ∈ mst ps s b := by
  cases b with
  | zero => exact h
  | succ b => exact (mem_insTo b).2 (.inl h)

theorem cntM_new {ps S : List (List UInt8)} (hi : SInv ps S) {s : List UInt8} {b : Nat} (hb : b ≤ s.length) (hm : s.take b ∉ mst ps s b) : cntM S s b (s.take b) = 0 ∧ memb S (s.take b) = false := by
  have hps : s.take b ∉ ps := fun h => hm (mst_sub b h)
  refine ⟨?_, memb_new hi hps⟩
  cases b with
  | zero => exact cnt_zero hi hps
  | succ b =>
    have : (s.take (b + 1)).isPrefixOf (s.take b) = false := not_prefix_of_length (by simp; omega)
    simp [cntM, cntTo, cnt_zero hi hps, this]

def flg (S : List (List UInt8)) (s : List UInt8) (b : Nat) : List UInt8 → Bool := if b ≤ s.length then memb S else memb (S ++ [s])

/-- What holds at the head of the model's loop. -/
def MRel (w : World) (mb : Nat) (F : Nat → Prop) (ps S : List (List UInt8)) (s : List UInt8) (b : Nat) (wr : World) : Prop :=
  b ≤ s.length + 1 ∧ ∃ F', Mo wr mb F' (mst ps s b) (flg S s b) (cntM S s b) ∧ Moved F F' w wr

theorem pth_snoc (ps : List (List UInt8)) (p : List UInt8) (i : Nat) (h : i < ps.length) : pth (ps ++ [p]) i = pth ps i := by
  unfold pth
  simp [List.getD, List.getElem?_append_left h]
theorem pth_last (ps : List (List UInt8)) (p : List UInt8) : pth (ps ++ [p]) ps.length = .string (bs p) := by
  unfold pth
  simp [List.getD]

section
variable {wr : World} {mb g k c b : Nat} {v0 v1 v2 : Value} {ps S : List (List UInt8)} {s : List UInt8}

theorem mstep_old (hi : SInv ps S) (hv : validB s = true) (hb : b ≤ s.length) (hm : s.take b ∈ mst ps s b)
    (hT : M3 wr mb v0 v1 (.slice (some ⟨g, 0, none⟩) k c) (mst ps s b).length (mst ps s b).length (mst ps s b).length (pth (mst ps s b)) (wx (mst ps s b) (memb S)) (bx (mst ps s b) (cntM S s b))) :
    M3 (wr.setCell ⟨g, (mst ps s b).idxOf (s.take b), none⟩ (.int .i64 (bx (mst ps s b) (cntM S s b) ((mst ps s b).idxOf (s.take b)) + 1))) mb v0 v1 (.slice (some ⟨g, 0, none⟩) k c) (mst ps s (b + 1)).length (mst ps s (b + 1)).length (mst ps s (b + 1)).length (pth (mst ps s (b + 1))) (wx (mst ps s (b + 1)) (memb S)) (bx (mst ps s (b + 1)) (cntM S s (b + 1))) := by
  have e : mst ps s (b + 1) = mst ps s b := by rw [mst_succ, ext, if_pos hm]
  have hp := (mst_inv hi.p s hv b hb).1
  rw [e] at hp ⊢
  exact (hT.setB _ _).congr (fun _ _ => rfl) (fun _ _ => rfl) (fun n hn => bx_set hp hm (fun q => cntM_succ S s b hb q) n hn)

theorem mstep_grown (hi : SInv ps S) (hb : b ≤ s.length) (hm : s.take b ∉ mst ps s b)
    (hT : M3 wr mb v0 v1 v2 ((mst ps s b).length + 1) ((mst ps s b).length + 1) ((mst ps s b).length + 1) (pth (mst ps s b ++ [s.take b])) (wx (mst ps s b) (memb S)) (bx (mst ps s b) (cntM S s b))) :
    M3 wr mb v0 v1 v2 (mst ps s (b + 1)).length (mst ps s (b + 1)).length (mst ps s (b + 1)).length (pth (mst ps s (b + 1))) (wx (mst ps s (b + 1)) (memb S)) (bx (mst ps s (b + 1)) (cntM S s b)) := by
  have e : mst ps s (b + 1) = mst ps s b ++ [s.take b] := by rw [mst_succ, ext, if_neg hm]
  obtain ⟨h1, h2⟩ := cntM_new hi hb hm
  rw [e, List.length_append, List.length_singleton]
  exact hT.congr (fun _ _ => rfl) (fun n hn => (wx_snoc h2 n hn).symm) (fun n hn => (bx_snoc h1 n hn).symm)

theorem mstep_new (hi : SInv ps S) (hv : validB s = true) (hb : b ≤ s.length) (hm : s.take b ∉ mst ps s b)
    (hT : M3 wr mb v0 v1 (.slice (some ⟨g, 0, none⟩) k c) (mst ps s (b + 1)).length (mst ps s (b + 1)).length (mst ps s (b + 1)).length (pth (mst ps s (b + 1))) (wx (mst ps s (b + 1)) (memb S)) (bx (mst ps s (b + 1)) (cntM S s b))) :
    bx (mst ps s (b + 1)) (cntM S s b) (mst ps s b).length = 0 ∧ (mst ps s (b + 1)).idxOf (s.take b) = (mst ps s b).length ∧ M3 (wr.setCell ⟨g, (mst ps s b).length, none⟩ (.int .i64 1)) mb v0 v1 (.slice (some ⟨g, 0, none⟩) k c) (mst ps s (b + 1)).length (mst ps s (b + 1)).length (mst ps s (b + 1)).length (pth (mst ps s (b + 1))) (wx (mst ps s (b + 1)) (memb S)) (bx (mst ps s (b + 1)) (cntM S s (b + 1))) := by
  have e : mst ps s (b + 1) = mst ps s b ++ [s.take b] := by rw [mst_succ, ext, if_neg hm]
  obtain ⟨hp, hmem⟩ := mst_inv hi.p s hv b hb
  have hidx : (mst ps s (b + 1)).idxOf (s.take b) = (mst ps s b).length := hp.idx_eq (by rw [e]; simp)
  obtain ⟨h1, h2⟩ := cntM_new hi hb hm
  have h0 : bx (mst ps s (b + 1)) (cntM S s b) (mst ps s b).length = 0 := by
    rw [bx_some (p := s.take b) (by rw [e]; simp), h1]
    rfl
  refine ⟨h0, hidx, (hT.setB _ _).congr (fun _ _ => rfl) (fun _ _ => rfl) (fun n hn => ?_)⟩
  have := bx_set hp hmem (fun q => cntM_succ S s b hb q) n hn
  rw [hidx, h0] at this
  exact this

theorem mstep_mark (hi : SInv ps S) (hv : validB s = true)
    (hT : M3 wr mb v0 (.slice (some ⟨g, 0, none⟩) k c) v2 (mst ps s (s.length + 1)).length (mst ps s (s.length + 1)).length (mst ps s (s.length + 1)).length (pth (mst ps s (s.length + 1))) (wx (mst ps s (s.length + 1)) (memb S)) (bx (mst ps s (s.length + 1)) (cntM S s (s.length + 1)))) :
    M3 (wr.setCell ⟨g, (mst ps s (s.length + 1)).idxOf (s.take s.length), none⟩ (.bool true)) mb v0 (.slice (some ⟨g, 0, none⟩) k c) v2 (mst ps s (s.length + 1)).length (mst ps s (s.length + 1)).length (mst ps s (s.length + 1)).length (pth (mst ps s (s.length + 1))) (wx (mst ps s (s.length + 1)) (memb (S ++ [s]))) (bx (mst ps s (s.length + 1)) (cntM S s (s.length + 1))) := by
  obtain ⟨hp, hmem⟩ := mst_inv hi.p s hv s.length (Nat.le_refl _)
  rw [List.take_length] at hmem ⊢
  exact (hT.setW _ _).congr (fun _ _ => rfl) (fun n hn => wx_set hp hmem n hn) (fun _ _ => rfl)
end

set_option maxHeartbeats 400000 in
theorem minsert_bad (p : Value) (s : ByteArray) (w : World) (hs : s.size ≤ 1000000000) (hv : validB s.data.toList = false) :
    Calls Yatv.prog 50 #[p, .string s] w fun e w' => e = .returned (.int .i64 2) ∧ w' = w := by
  have HV := hid hv
  clear hv
  go_enter Yatv.func50, Yatv.ntmps50
  go_wp2_with (go_at_call 63; refine (valid63 s _ hs).mono ?_; rw [HV.out]; rintro e w' ⟨rfl, rfl⟩)
  go_ret
  exact ⟨rfl, rfl⟩

set_option maxHeartbeats 400000 in
theorem minsert_there {w : World} {mb : Nat} {F : Nat → Prop} {ps S : List (List UInt8)} {g : List UInt8 → Nat} (h : Mo w mb F ps (memb S) g) (hi : SInv ps S) (hk : ps.length ≤ 1000000000) (s : ByteArray) (hs : s.size ≤ 1000000000) (hv : validB s.data.toList = true) (hb : memb S s.data.toList = true) :
    Calls Yatv.prog 50 #[.pointer (some ⟨mb,0,none⟩), .string s] w fun e w' => e = .returned (.int .i64 1) ∧ w' = w := by
  have HV := hid hv
  have hm : s.data.toList ∈ ps := hi.sub _ (by simpa [memb] using hb)
  obtain ⟨v0, v1, v2, _, hT⟩ := h
  have hml := List.idxOf_lt_length_iff.2 hm
  obtain ⟨g1, c1, rfl, _⟩ := hT.r1.pos (by omega)
  have hd1 := hT.c1
  have hx := hT.r1.cell (i := ps.idxOf s.data.toList) (by omega)
  rw [wx_some (getElem?_idxOf hm), hb] at hx
  have HI := hid (idxI_nonneg hm)
  have HT := hid hT
  clear hv hb hi hm hT
  generalize ps.idxOf s.data.toList = J at *
  have hJ : ¬ (J : Int) < 0 := by omega
  go_enter Yatv.func50, Yatv.ntmps50
  go_wp2_with (first | (go_at_call 63; refine (valid63 s _ hs).mono ?_; rw [HV.out]; rintro e w' ⟨rfl, hw⟩; obtain rfl := hw.symm) | (go_at_call 52; refine (index52 HT.out hk s).mono ?_; rw [HI.out]; rintro e w' ⟨rfl, hw⟩; obtain rfl := hw.symm))
  go_ret
  exact ⟨rfl, rfl⟩

set_option maxHeartbeats 4000000 in
set_option maxRecDepth 100000 in
theorem minsert_new {w : World} {mb : Nat} {F : Nat → Prop} {ps S : List (List UInt8)} (h : Mo w mb F ps (memb S) (cnt S)) (hi : SInv ps S) (s : ByteArray) (hk : ps.length + s.size + 1 ≤ 1000000) (hSl : S.length + 1 ≤ 1000000) (hv : validB s.data.toList = true) (hb : memb S s.data.toList = false) :
    Calls Yatv.prog 50 #[.pointer (some ⟨mb,0,none⟩), .string s] w fun e w' => e = .returned (.int .i64 0) ∧ ∃ F', Mo w' mb F' (insTo ps s.data.toList s.data.toList.length) (memb (S ++ [s.data.toList])) (cnt (S ++ [s.data.toList])) ∧ Moved F F' w w' := by
  have HV := hid hv
  have HI := hid hi
  have hlen : s.data.toList.length = s.size := by simp
  have HL := hid hlen
  have HS0 : Hid (MRel w mb F ps S s.data.toList 0 w) := by
    refine ⟨Nat.zero_le _, F, ?_, Moved.refl _ _⟩
    have : flg S s.data.toList 0 = memb S := by unfold flg; rw [if_pos (Nat.zero_le _)]
    rw [this]
    exact h
  obtain ⟨v0, v1, v2, hF, hT⟩ := h
  have HT0 := hid hT
  have HB := hid hb
  clear hv hlen hF
  by_cases hmp : s.data.toList ∈ ps
  case pos =>
    have hml := List.idxOf_lt_length_iff.2 hmp
    obtain ⟨g1, c1, rfl, _⟩ := hT.r1.pos (by omega)
    have hd1 := hT.c1
    have hx := hT.r1.cell (i := ps.idxOf s.data.toList) (by omega)
    rw [wx_some (getElem?_idxOf hmp), hb] at hx
    have HJ := hid (idxI_nonneg hmp)
    clear hb hi hmp hT
    generalize ps.idxOf s.data.toList = J at *
    have hJ : ¬ (J : Int) < 0 := by omega
    go_enter Yatv.func50, Yatv.ntmps50
    go_wp2_with (first | (go_at_call 63; refine (valid63 s _ (by omega)).mono ?_; rw [HV.out]; rintro e w' ⟨rfl, hw⟩; obtain rfl := hw.symm) | (go_at_call 52; refine (index52 HT0.out (by omega) s).mono ?_; rw [HJ.out]; rintro e w' ⟨rfl, hw⟩; obtain rfl := hw.symm))
    clear hd1 hx HJ HT0
    go_loopw [6, 7, 8] (fun kk _ _ wr => ∃ b : Nat, kk = .int .i64 b ∧ MRel w mb F ps S s.data.toList b wr) (fun kk _ _ _ => s.size + 1 - (intOf kk).toNat)
    case atStart => exact ⟨0, rfl, HS0.out⟩
    case round =>
      obtain ⟨b, rfl, hbl, F', ⟨v0, v1, v2, rfl, hT⟩, hM⟩ := hrel
      have hk1 : (mst ps s.data.toList b).length ≤ ps.length + b := length_mst _ _ _
      have hbs : b ≤ s.size + 1 := by have := HL.out; omega
      have HM := hid hM
      clear hM HS0 hbl
      by_cases hle : b ≤ s.size
      · have hle' : b ≤ s.data.toList.length := by rw [HL.out]; exact hle
        have hT' : M3 wr mb v0 v1 v2 (mst ps s.data.toList b).length (mst ps s.data.toList b).length (mst ps s.data.toList b).length (pth (mst ps s.data.toList b)) (wx (mst ps s.data.toList b) (memb S)) (bx (mst ps s.data.toList b) (cntM S s.data.toList b)) := by
          unfold flg at hT
          rw [if_pos hle'] at hT
          exact hT
        have HT := hid hT'
        clear hT
        obtain ⟨xb, hxb⟩ : ∃ xb, s.extract 0 b = xb := ⟨_, rfl⟩
        have HX : Hid (xb.data.toList = s.data.toList.take b) := by rw [← hxb]; exact extract_toList s b
        by_cases hm : s.data.toList.take b ∈ mst ps s.data.toList b
        · have hml := List.idxOf_lt_length_iff.2 hm
          obtain ⟨g1, c1, rfl, _⟩ := hT'.r1.pos (by omega)
          obtain ⟨g2, c2, rfl, _⟩ := hT'.r2.pos (by omega)
          have hN := mstep_old HI.out HV.out hle' hm hT'
          have hM2 := HM.out.store (n := (mst ps s.data.toList b).idxOf (s.data.toList.take b)) (u := .int .i64 (bx (mst ps s.data.toList b) (cntM S s.data.toList b) ((mst ps s.data.toList b).idxOf (s.data.toList.take b)) + 1)) (show foot mb v0 (.slice (some ⟨g1, 0, none⟩) (mst ps s.data.toList b).length c1) (.slice (some ⟨g2, 0, none⟩) (mst ps s.data.toList b).length c2) g2 from .inr (.inr (.inr rfl)))
          have e : mst ps s.data.toList (b + 1) = mst ps s.data.toList b := by rw [mst_succ, ext, if_pos hm]
          have HIJ := hid (idxI_nonneg hm)
          have hd2 := hT'.c2
          have hx := hT'.r2.cell (i := (mst ps s.data.toList b).idxOf (s.data.toList.take b)) (by omega)
          have hfx := hT'.r2.frozen ((mst ps s.data.toList b).idxOf (s.data.toList.take b))
          have hbd := bx_bounds (ps := mst ps s.data.toList b) (S := S) (f := cntM S s.data.toList b) (cntM_le S s.data.toList b) ((mst ps s.data.toList b).idxOf (s.data.toList.take b))
          have HN := hid hN
          have HM2 := hid hM2
          have HEQ := hid e
          clear hT' hN hM2 e hm
          by_cases hend : b = s.size
          · have heq : ((b : Int) == (s.size : Int)) = true := by simp [hend]
            have hd1 := HN.out.c1
            have hx1 := HN.out.r1.cell (i := (mst ps s.data.toList b).idxOf (s.data.toList.take b)) (by rw [HEQ.out]; omega)
            have hf1 := HN.out.r1.frozen ((mst ps s.data.toList b).idxOf (s.data.toList.take b))
            have hb2 : b = s.data.toList.length := by rw [HL.out]; exact hend
            have HR : Hid (MRel w mb F ps S s.data.toList (b + 1) ((wr.setCell ⟨g2, (mst ps s.data.toList b).idxOf (s.data.toList.take b), none⟩ (.int .i64 (bx (mst ps s.data.toList b) (cntM S s.data.toList b) ((mst ps s.data.toList b).idxOf (s.data.toList.take b)) + 1))).setCell ⟨g1, (mst ps s.data.toList b).idxOf (s.data.toList.take b), none⟩ (.bool true))) := by
              have h1 := HN.out
              rw [hb2] at h1
              have h2 := mstep_mark HI.out HV.out h1
              rw [← hb2] at h2
              refine ⟨by omega, _, ⟨v0, _, _, rfl, ?_⟩, HM2.out.store (.inr (.inr (.inl rfl)))⟩
              have : flg S s.data.toList (b + 1) = memb (S ++ [s.data.toList]) := by unfold flg; rw [if_neg (by omega)]
              rw [this]
              rw [HEQ.out] at h2
              rw [HEQ.out]
              exact h2
            clear hb2 hend
            generalize (mst ps s.data.toList b).idxOf (s.data.toList.take b) = J at *
            generalize bx (mst ps s.data.toList b) (cntM S s.data.toList b) J = cv at *
            have hJ : ¬ (J : Int) < 0 := by omega
            go_wp2_with (go_at_call 52; refine (index52 HT.out (by omega) xb).mono ?_; rw [HX.out, HIJ.out]; rintro e w' ⟨rfl, hw⟩; obtain rfl := hw.symm)
            go_roundw
            case rel => exact ⟨b + 1, by go_num, HR.out⟩
            case measure => simp [intOf]; omega
          · have heq : ((b : Int) == (s.size : Int)) = false := by rw [beq_eq_false_iff_ne]; omega
            have HR : Hid (MRel w mb F ps S s.data.toList (b + 1) (wr.setCell ⟨g2, (mst ps s.data.toList b).idxOf (s.data.toList.take b), none⟩ (.int .i64 (bx (mst ps s.data.toList b) (cntM S s.data.toList b) ((mst ps s.data.toList b).idxOf (s.data.toList.take b)) + 1)))) := by
              have h9 := HL.out
              refine ⟨by omega, _, ⟨v0, _, _, rfl, ?_⟩, HM2.out⟩
              have : flg S s.data.toList (b + 1) = memb S := by unfold flg; rw [if_pos (by omega)]
              rw [this]
              exact HN.out
            generalize (mst ps s.data.toList b).idxOf (s.data.toList.take b) = J at *
            generalize bx (mst ps s.data.toList b) (cntM S s.data.toList b) J = cv at *
            have hJ : ¬ (J : Int) < 0 := by omega
            go_wp2_with (go_at_call 52; refine (index52 HT.out (by omega) xb).mono ?_; rw [HX.out, HIJ.out]; rintro e w' ⟨rfl, hw⟩; obtain rfl := hw.symm)
            go_roundw
            case rel => exact ⟨b + 1, by go_num, HR.out⟩
            case measure => simp [intOf]; omega
        · have HIJ := hid (idxI_neg hm)
          have HM0 := hid hm
          obtain ⟨ao0, cap0, rfl, _⟩ := hT'.r0.form
          obtain ⟨ao1, cap1, rfl, _⟩ := hT'.r1.form
          obtain ⟨ao2, cap2, rfl, _⟩ := hT'.r2.form
          have hc := hT'.c0
          have hlt0 := hT'.lt
          have h3 := hid (hT'.congr (N' := pth (mst ps s.data.toList b ++ [s.data.toList.take b])) (fun n hn => (pth_snoc _ _ n hn).symm) (fun _ _ => rfl) (fun _ _ => rfl))
          have HW0 : Hid (wx (mst ps s.data.toList b) (memb S) (mst ps s.data.toList b).length = false) := wx_none (by simp)
          have HB0 : Hid (bx (mst ps s.data.toList b) (cntM S s.data.toList b) (mst ps s.data.toList b).length = 0) := bx_none (by simp)
          have HST1 : Hid (∀ w1 u0 u1 u2, M3 w1 mb u0 u1 u2 ((mst ps s.data.toList b).length + 1) ((mst ps s.data.toList b).length + 1) ((mst ps s.data.toList b).length + 1) (pth (mst ps s.data.toList b ++ [s.data.toList.take b])) (wx (mst ps s.data.toList b) (memb S)) (bx (mst ps s.data.toList b) (cntM S s.data.toList b)) → M3 w1 mb u0 u1 u2 (mst ps s.data.toList (b + 1)).length (mst ps s.data.toList (b + 1)).length (mst ps s.data.toList (b + 1)).length (pth (mst ps s.data.toList (b + 1))) (wx (mst ps s.data.toList (b + 1)) (memb S)) (bx (mst ps s.data.toList (b + 1)) (cntM S s.data.toList b))) := fun w1 u0 u1 u2 h => mstep_grown HI.out hle' hm h
          have hLE : (mst ps s.data.toList (b + 1)).length = (mst ps s.data.toList b).length + 1 := by rw [mst_succ, ext, if_neg hm]; simp
          have HLE := hid hLE
          clear hT' hm hLE
          go_wp2_with (first | (go_at_call 52; refine (index52 HT.out (by omega) xb).mono ?_; rw [HX.out, HIJ.out]; rintro e w' ⟨rfl, hw⟩; obtain rfl := hw.symm) | (at_builtin; refine wpList_append_row rfl (.tmp 44) (.tmp 46) 31 rfl 9 _ 1 16 Yatv.underlying31 Yatv.info9 rfl (by decide) _ (mst ps s.data.toList b).length _ rfl (HT.out.r0.alloc _) ⟨wr.heap.size,0,none⟩ 1 1 rfl (pth (mst ps s.data.toList b ++ [s.data.toList.take b])) ?nA ?oA ?pA (by decide) ?qA ?rA ?_))
          case nA => intro j hj; refine new_one _ _ _ _ _ j (by simp) hj ?_; rw [show (mst ps s.data.toList b).length * 1 + j = (mst ps s.data.toList b).length by omega, pth_last, ← HX.out, bs_of]
          case oA => intro j; rfl
          case pA => intro i hi; exact pth_snoc _ _ i (by omega)
          case qA => unfold maxLen; omega
          case rA => omega
          intro gA capA w1 hr hkp hat
          obtain ⟨⟨hd0, hf0⟩, hT1, hK1⟩ := (h3.out.alloc _).app0 hr hkp (by simpa using hat)
          have K1 := hid ((Moved.refl _ wr).alloc _ |>.trans hK1)
          have hT1' := hid hT1
          have hc1 := hT1.c1
          have hlt1 := hT1.lt
          clear hr hkp hat hT1 hK1 hc h3
          go_wp2_with (at_builtin; refine wpList_append_row rfl (.tmp 54) (.tmp 55) 27 rfl 4 _ 1 1 Yatv.underlying27 Yatv.info4 rfl (by decide) _ (mst ps s.data.toList b).length _ rfl (hT1'.out.r1.alloc _) ⟨_,0,none⟩ 1 1 rfl (fun i => .bool (wx (mst ps s.data.toList b) (memb S) i)) ?n1A ?o1A ?p1A (by decide) ?q1A ?r1A ?_)
          case n1A => intro j hj; refine new_one _ _ _ _ _ j (by simp) hj ?_; rw [show (mst ps s.data.toList b).length * 1 + j = (mst ps s.data.toList b).length by omega, HW0.out]
          case o1A => intro j; rfl
          case q1A => unfold maxLen; omega
          case r1A => omega
          clear hd0 hf0 hc1
          intro gB capB w2 hr hkp hat
          obtain ⟨⟨hd0, hf0⟩, hT2, hK2⟩ := (hT1'.out.alloc _).app1 hr hkp (by simpa using hat)
          have K2 := hid (K1.out.trans ((Moved.refl _ _).alloc _ |>.trans hK2))
          have hT2' := hid hT2
          have hc2 := hT2.c2
          have hlt2 := hT2.lt
          clear hr hkp hat hT2 hK2 hT1' hlt1
          go_wp2_with (at_builtin; refine wpList_append_row rfl (.tmp 63) (.tmp 64) 28 rfl 3 _ 1 8 Yatv.underlying28 Yatv.info3 rfl (by decide) _ (mst ps s.data.toList b).length _ rfl (hT2'.out.r2.alloc _) ⟨_,0,none⟩ 1 1 rfl (fun i => .int .i64 (bx (mst ps s.data.toList b) (cntM S s.data.toList b) i)) ?n2A ?o2A ?p2A (by decide) ?q2A ?r2A ?_)
          case n2A => intro j hj; refine new_one _ _ _ _ _ j (by simp) hj ?_; rw [show (mst ps s.data.toList b).length * 1 + j = (mst ps s.data.toList b).length by omega, HB0.out]
          case o2A => intro j; rfl
          case q2A => unfold maxLen; omega
          case r2A => omega
          clear hd0 hf0 hc2
          intro gC capC w3 hr hkp hat
          obtain ⟨⟨hd0, hf0⟩, hT3, hK3⟩ := (hT2'.out.alloc _).app2 hr hkp (by simpa using hat)
          have K3 := hid (HM.out.trans (K2.out.trans ((Moved.refl _ _).alloc _ |>.trans hK3)))
          have hT4 := HST1.out _ _ _ _ hT3
          obtain ⟨hz0, hidx, hT5⟩ := mstep_new HI.out HV.out hle' HM0.out hT4
          have hM5 := K3.out.store (n := (mst ps s.data.toList b).length) (u := .int .i64 1) (show foot mb (.slice (some ⟨gA, 0, none⟩) ((mst ps s.data.toList b).length + 1) capA) (.slice (some ⟨gB, 0, none⟩) ((mst ps s.data.toList b).length + 1) capB) (.slice (some ⟨gC, 0, none⟩) ((mst ps s.data.toList b).length + 1) capC) gC from .inr (.inr (.inr rfl)))
          have hc0 := hT4.c0
          have hc2 := hT4.c2
          have hx := hT4.r2.cell (i := (mst ps s.data.toList b).length) (by rw [HLE.out]; omega)
          rw [hz0] at hx
          have hfx := hT4.r2.frozen (mst ps s.data.toList b).length
          have HT5 := hid hT5
          have HM5 := hid hM5
          have HIDX := hid hidx
          clear hr hkp hat hT3 hK3 hT2' hlt2 hT4 hT5 hM5 hz0 hidx HST1
          by_cases hend : b = s.size
          · have heq : ((b : Int) == (s.size : Int)) = true := by simp [hend]
            have hd1 := HT5.out.c1
            have hx1 := HT5.out.r1.cell (i := (mst ps s.data.toList b).length) (by rw [HLE.out]; omega)
            have hf1 := HT5.out.r1.frozen ((mst ps s.data.toList b).length)
            have hb2 : b = s.data.toList.length := by rw [HL.out]; exact hend
            have HR : Hid (MRel w mb F ps S s.data.toList (b + 1) (((w3.setCell ⟨mb, 2, none⟩ (.slice (some ⟨gC, 0, none⟩) ((mst ps s.data.toList b).length + 1) capC)).setCell ⟨gC, (mst ps s.data.toList b).length, none⟩ (.int .i64 1)).setCell ⟨gB, (mst ps s.data.toList b).length, none⟩ (.bool true))) := by
              have h1 := HT5.out
              have h8 := HIDX.out
              rw [hb2] at h1 h8
              have h2 := mstep_mark HI.out HV.out h1
              rw [h8, ← hb2] at h2
              refine ⟨by omega, _, ⟨_, _, _, rfl, ?_⟩, HM5.out.store (.inr (.inr (.inl rfl)))⟩
              have : flg S s.data.toList (b + 1) = memb (S ++ [s.data.toList]) := by unfold flg; rw [if_neg (by omega)]
              rw [this]
              exact h2
            clear hb2 hend
            generalize (mst ps s.data.toList b).length = K at *
            go_wp2
            go_roundw
            case rel => exact ⟨b + 1, by go_num, HR.out⟩
            case measure => simp [intOf]; omega
          · have heq : ((b : Int) == (s.size : Int)) = false := by rw [beq_eq_false_iff_ne]; omega
            have HR : Hid (MRel w mb F ps S s.data.toList (b + 1) ((w3.setCell ⟨mb, 2, none⟩ (.slice (some ⟨gC, 0, none⟩) ((mst ps s.data.toList b).length + 1) capC)).setCell ⟨gC, (mst ps s.data.toList b).length, none⟩ (.int .i64 1))) := by
              have h9 := HL.out
              refine ⟨by omega, _, ⟨_, _, _, rfl, ?_⟩, HM5.out⟩
              have : flg S s.data.toList (b + 1) = memb S := by unfold flg; rw [if_pos (by omega)]
              rw [this]
              exact HT5.out
            generalize (mst ps s.data.toList b).length = K at *
            go_wp2
            go_roundw
            case rel => exact ⟨b + 1, by go_num, HR.out⟩
            case measure => simp [intOf]; omega
      · obtain rfl : b = s.size + 1 := by omega
        have hd9 : decide ((s.size : Int) + 1 ≤ (s.size : Int)) = false := decide_eq_false (by omega)
        have HT := hid hT
        clear hT
        go_wp2
        go_ret
        refine ⟨rfl, _, ⟨v0, v1, v2, rfl, ?_⟩, HM.out⟩
        have h9 := HT.out
        rw [← HL.out] at h9
        have e1 : flg S s.data.toList (s.data.toList.length + 1) = memb (S ++ [s.data.toList]) := by unfold flg; rw [if_neg (by omega)]
        have e2 : cntM S s.data.toList (s.data.toList.length + 1) = cnt (S ++ [s.data.toList]) := cntTo_full S s.data.toList
        rw [e1, e2] at h9
        exact h9
  case neg =>
    have HJ := hid (idxI_neg hmp)
    clear hb hi hmp hT
    go_enter Yatv.func50, Yatv.ntmps50
    go_wp2_with (first | (go_at_call 63; refine (valid63 s _ (by omega)).mono ?_; rw [HV.out]; rintro e w' ⟨rfl, hw⟩; obtain rfl := hw.symm) | (go_at_call 52; refine (index52 HT0.out (by omega) s).mono ?_; rw [HJ.out]; rintro e w' ⟨rfl, hw⟩; obtain rfl := hw.symm))
    clear HJ HT0
    go_loopw [6, 7, 8] (fun kk _ _ wr => ∃ b : Nat, kk = .int .i64 b ∧ MRel w mb F ps S s.data.toList b wr) (fun kk _ _ _ => s.size + 1 - (intOf kk).toNat)
    case atStart => exact ⟨0, rfl, HS0.out⟩
    case round =>
      obtain ⟨b, rfl, hbl, F', ⟨v0, v1, v2, rfl, hT⟩, hM⟩ := hrel
      have hk1 : (mst ps s.data.toList b).length ≤ ps.length + b := length_mst _ _ _
      have hbs : b ≤ s.size + 1 := by have := HL.out; omega
      have HM := hid hM
      clear hM HS0 hbl
      by_cases hle : b ≤ s.size
      · have hle' : b ≤ s.data.toList.length := by rw [HL.out]; exact hle
        have hT' : M3 wr mb v0 v1 v2 (mst ps s.data.toList b).length (mst ps s.data.toList b).length (mst ps s.data.toList b).length (pth (mst ps s.data.toList b)) (wx (mst ps s.data.toList b) (memb S)) (bx (mst ps s.data.toList b) (cntM S s.data.toList b)) := by
          unfold flg at hT
          rw [if_pos hle'] at hT
          exact hT
        have HT := hid hT'
        clear hT
        obtain ⟨xb, hxb⟩ : ∃ xb, s.extract 0 b = xb := ⟨_, rfl⟩
        have HX : Hid (xb.data.toList = s.data.toList.take b) := by rw [← hxb]; exact extract_toList s b
        by_cases hm : s.data.toList.take b ∈ mst ps s.data.toList b
        · have hml := List.idxOf_lt_length_iff.2 hm
          obtain ⟨g1, c1, rfl, _⟩ := hT'.r1.pos (by omega)
          obtain ⟨g2, c2, rfl, _⟩ := hT'.r2.pos (by omega)
          have hN := mstep_old HI.out HV.out hle' hm hT'
          have hM2 := HM.out.store (n := (mst ps s.data.toList b).idxOf (s.data.toList.take b)) (u := .int .i64 (bx (mst ps s.data.toList b) (cntM S s.data.toList b) ((mst ps s.data.toList b).idxOf (s.data.toList.take b)) + 1)) (show foot mb v0 (.slice (some ⟨g1, 0, none⟩) (mst ps s.data.toList b).length c1) (.slice (some ⟨g2, 0, none⟩) (mst ps s.data.toList b).length c2) g2 from .inr (.inr (.inr rfl)))
          have e : mst ps s.data.toList (b + 1) = mst ps s.data.toList b := by rw [mst_succ, ext, if_pos hm]
          have HIJ := hid (idxI_nonneg hm)
          have hd2 := hT'.c2
          have hx := hT'.r2.cell (i := (mst ps s.data.toList b).idxOf (s.data.toList.take b)) (by omega)
          have hfx := hT'.r2.frozen ((mst ps s.data.toList b).idxOf (s.data.toList.take b))
          have hbd := bx_bounds (ps := mst ps s.data.toList b) (S := S) (f := cntM S s.data.toList b) (cntM_le S s.data.toList b) ((mst ps s.data.toList b).idxOf (s.data.toList.take b))
          have HN := hid hN
          have HM2 := hid hM2
          have HEQ := hid e
          clear hT' hN hM2 e hm
          by_cases hend : b = s.size
          · have heq : ((b : Int) == (s.size : Int)) = true := by simp [hend]
            have hd1 := HN.out.c1
            have hx1 := HN.out.r1.cell (i := (mst ps s.data.toList b).idxOf (s.data.toList.take b)) (by rw [HEQ.out]; omega)
            have hf1 := HN.out.r1.frozen ((mst ps s.data.toList b).idxOf (s.data.toList.take b))
            have hb2 : b = s.data.toList.length := by rw [HL.out]; exact hend
            have HR : Hid (MRel w mb F ps S s.data.toList (b + 1) ((wr.setCell ⟨g2, (mst ps s.data.toList b).idxOf (s.data.toList.take b), none⟩ (.int .i64 (bx (mst ps s.data.toList b) (cntM S s.data.toList b) ((mst ps s.data.toList b).idxOf (s.data.toList.take b)) + 1))).setCell ⟨g1, (mst ps s.data.toList b).idxOf (s.data.toList.take b), none⟩ (.bool true))) := by
              have h1 := HN.out
              rw [hb2] at h1
              have h2 := mstep_mark HI.out HV.out h1
              rw [← hb2] at h2
              refine ⟨by omega, _, ⟨v0, _, _, rfl, ?_⟩, HM2.out.store (.inr (.inr (.inl rfl)))⟩
              have : flg S s.data.toList (b + 1) = memb (S ++ [s.data.toList]) := by unfold flg; rw [if_neg (by omega)]
              rw [this]
              rw [HEQ.out] at h2
              rw [HEQ.out]
              exact h2
            clear hb2 hend
            generalize (mst ps s.data.toList b).idxOf (s.data.toList.take b) = J at *
            generalize bx (mst ps s.data.toList b) (cntM S s.data.toList b) J = cv at *
            have hJ : ¬ (J : Int) < 0 := by omega
            go_wp2_with (go_at_call 52; refine (index52 HT.out (by omega) xb).mono ?_; rw [HX.out, HIJ.out]; rintro e w' ⟨rfl, hw⟩; obtain rfl := hw.symm)
            go_roundw
            case rel => exact ⟨b + 1, by go_num, HR.out⟩
            case measure => simp [intOf]; omega
          · have heq : ((b : Int) == (s.size : Int)) = false := by rw [beq_eq_false_iff_ne]; omega
            have HR : Hid (MRel w mb F ps S s.data.toList (b + 1) (wr.setCell ⟨g2, (mst ps s.data.toList b).idxOf (s.data.toList.take b), none⟩ (.int .i64 (bx (mst ps s.data.toList b) (cntM S s.data.toList b) ((mst ps s.data.toList b).idxOf (s.data.toList.take b)) + 1)))) := by
              have h9 := HL.out
              refine ⟨by omega, _, ⟨v0, _, _, rfl, ?_⟩, HM2.out⟩
              have : flg S s.data.toList (b + 1) = memb S := by unfold flg; rw [if_pos (by omega)]
              rw [this]
              exact HN.out
            generalize (mst ps s.data.toList b).idxOf (s.data.toList.take b) = J at *
            generalize bx (mst ps s.data.toList b) (cntM S s.data.toList b) J = cv at *
            have hJ : ¬ (J : Int) < 0 := by omega
            go_wp2_with (go_at_call 52; refine (index52 HT.out (by omega) xb).mono ?_; rw [HX.out, HIJ.out]; rintro e w' ⟨rfl, hw⟩; obtain rfl := hw.symm)
            go_roundw
            case rel => exact ⟨b + 1, by go_num, HR.out⟩
            case measure => simp [intOf]; omega
        · have HIJ := hid (idxI_neg hm)
          have HM0 := hid hm
          obtain ⟨ao0, cap0, rfl, _⟩ := hT'.r0.form
          obtain ⟨ao1, cap1, rfl, _⟩ := hT'.r1.form
          obtain ⟨ao2, cap2, rfl, _⟩ := hT'.r2.form
          have hc := hT'.c0
          have hlt0 := hT'.lt
          have h3 := hid (hT'.congr (N' := pth (mst ps s.data.toList b ++ [s.data.toList.take b])) (fun n hn => (pth_snoc _ _ n hn).symm) (fun _ _ => rfl) (fun _ _ => rfl))
          have HW0 : Hid (wx (mst ps s.data.toList b) (memb S) (mst ps s.data.toList b).length = false) := wx_none (by simp)
          have HB0 : Hid (bx (mst ps s.data.toList b) (cntM S s.data.toList b) (mst ps s.data.toList b).length = 0) := bx_none (by simp)
          have HST1 : Hid (∀ w1 u0 u1 u2, M3 w1 mb u0 u1 u2 ((mst ps s.data.toList b).length + 1) ((mst ps s.data.toList b).length + 1) ((mst ps s.data.toList b).length + 1) (pth (mst ps s.data.toList b ++ [s.data.toList.take b])) (wx (mst ps s.data.toList b) (memb S)) (bx (mst ps s.data.toList b) (cntM S s.data.toList b)) → M3 w1 mb u0 u1 u2 (mst ps s.data.toList (b + 1)).length (mst ps s.data.toList (b + 1)).length (mst ps s.data.toList (b + 1)).length (pth (mst ps s.data.toList (b + 1))) (wx (mst ps s.data.toList (b + 1)) (memb S)) (bx (mst ps s.data.toList (b + 1)) (cntM S s.data.toList b))) := fun w1 u0 u1 u2 h => mstep_grown HI.out hle' hm h
          have hLE : (mst ps s.data.toList (b + 1)).length = (mst ps s.data.toList b).length + 1 := by rw [mst_succ, ext, if_neg hm]; simp
          have HLE := hid hLE
          clear hT' hm hLE
          go_wp2_with (first | (go_at_call 52; refine (index52 HT.out (by omega) xb).mono ?_; rw [HX.out, HIJ.out]; rintro e w' ⟨rfl, hw⟩; obtain rfl := hw.symm) | (at_builtin; refine wpList_append_row rfl (.tmp 44) (.tmp 46) 31 rfl 9 _ 1 16 Yatv.underlying31 Yatv.info9 rfl (by decide) _ (mst ps s.data.toList b).length _ rfl (HT.out.r0.alloc _) ⟨wr.heap.size,0,none⟩ 1 1 rfl (pth (mst ps s.data.toList b ++ [s.data.toList.take b])) ?nB ?oB ?pB (by decide) ?qB ?rB ?_))
          case nB => intro j hj; refine new_one _ _ _ _ _ j (by simp) hj ?_; rw [show (mst ps s.data.toList b).length * 1 + j = (mst ps s.data.toList b).length by omega, pth_last, ← HX.out, bs_of]
          case oB => intro j; rfl
          case pB => intro i hi; exact pth_snoc _ _ i (by omega)
          case qB => unfold maxLen; omega
          case rB => omega
          intro gA capA w1 hr hkp hat
          obtain ⟨⟨hd0, hf0⟩, hT1, hK1⟩ := (h3.out.alloc _).app0 hr hkp (by simpa using hat)
          have K1 := hid ((Moved.refl _ wr).alloc _ |>.trans hK1)
          have hT1' := hid hT1
          have hc1 := hT1.c1
          have hlt1 := hT1.lt
          clear hr hkp hat hT1 hK1 hc h3
          go_wp2_with (at_builtin; refine wpList_append_row rfl (.tmp 54) (.tmp 55) 27 rfl 4 _ 1 1 Yatv.underlying27 Yatv.info4 rfl (by decide) _ (mst ps s.data.toList b).length _ rfl (hT1'.out.r1.alloc _) ⟨_,0,none⟩ 1 1 rfl (fun i => .bool (wx (mst ps s.data.toList b) (memb S) i)) ?n1B ?o1B ?p1B (by decide) ?q1B ?r1B ?_)
          case n1B => intro j hj; refine new_one _ _ _ _ _ j (by simp) hj ?_; rw [show (mst ps s.data.toList b).length * 1 + j = (mst ps s.data.toList b).length by omega, HW0.out]
          case o1B => intro j; rfl
          case q1B => unfold maxLen; omega
          case r1B => omega
          clear hd0 hf0 hc1
          intro gB capB w2 hr hkp hat
          obtain ⟨⟨hd0, hf0⟩, hT2, hK2⟩ := (hT1'.out.alloc _).app1 hr hkp (by simpa using hat)
          have K2 := hid (K1.out.trans ((Moved.refl _ _).alloc _ |>.trans hK2))
          have hT2' := hid hT2
          have hc2 := hT2.c2
          have hlt2 := hT2.lt
          clear hr hkp hat hT2 hK2 hT1' hlt1
          go_wp2_with (at_builtin; refine wpList_append_row rfl (.tmp 63) (.tmp 64) 28 rfl 3 _ 1 8 Yatv.underlying28 Yatv.info3 rfl (by decide) _ (mst ps s.data.toList b).length _ rfl (hT2'.out.r2.alloc _) ⟨_,0,none⟩ 1 1 rfl (fun i => .int .i64 (bx (mst ps s.data.toList b) (cntM S s.data.toList b) i)) ?n2B ?o2B ?p2B (by decide) ?q2B ?r2B ?_)
          case n2B => intro j hj; refine new_one _ _ _ _ _ j (by simp) hj ?_; rw [show (mst ps s.data.toList b).length * 1 + j = (mst ps s.data.toList b).length by omega, HB0.out]
          case o2B => intro j; rfl
          case q2B => unfold maxLen; omega
          case r2B => omega
          clear hd0 hf0 hc2
          intro gC capC w3 hr hkp hat
          obtain ⟨⟨hd0, hf0⟩, hT3, hK3⟩ := (hT2'.out.alloc _).app2 hr hkp (by simpa using hat)
          have K3 := hid (HM.out.trans (K2.out.trans ((Moved.refl _ _).alloc _ |>.trans hK3)))
          have hT4 := HST1.out _ _ _ _ hT3
          obtain ⟨hz0, hidx, hT5⟩ := mstep_new HI.out HV.out hle' HM0.out hT4
          have hM5 := K3.out.store (n := (mst ps s.data.toList b).length) (u := .int .i64 1) (show foot mb (.slice (some ⟨gA, 0, none⟩) ((mst ps s.data.toList b).length + 1) capA) (.slice (some ⟨gB, 0, none⟩) ((mst ps s.data.toList b).length + 1) capB) (.slice (some ⟨gC, 0, none⟩) ((mst ps s.data.toList b).length + 1) capC) gC from .inr (.inr (.inr rfl)))
          have hc0 := hT4.c0
          have hc2 := hT4.c2
          have hx := hT4.r2.cell (i := (mst ps s.data.toList b).length) (by rw [HLE.out]; omega)
          rw [hz0] at hx
          have hfx := hT4.r2.frozen (mst ps s.data.toList b).length
          have HT5 := hid hT5
          have HM5 := hid hM5
          have HIDX := hid hidx
          clear hr hkp hat hT3 hK3 hT2' hlt2 hT4 hT5 hM5 hz0 hidx HST1
          by_cases hend : b = s.size
          · have heq : ((b : Int) == (s.size : Int)) = true := by simp [hend]
            have hd1 := HT5.out.c1
            have hx1 := HT5.out.r1.cell (i := (mst ps s.data.toList b).length) (by rw [HLE.out]; omega)
            have hf1 := HT5.out.r1.frozen ((mst ps s.data.toList b).length)
            have hb2 : b = s.data.toList.length := by rw [HL.out]; exact hend
            have HR : Hid (MRel w mb F ps S s.data.toList (b + 1) (((w3.setCell ⟨mb, 2, none⟩ (.slice (some ⟨gC, 0, none⟩) ((mst ps s.data.toList b).length + 1) capC)).setCell ⟨gC, (mst ps s.data.toList b).length, none⟩ (.int .i64 1)).setCell ⟨gB, (mst ps s.data.toList b).length, none⟩ (.bool true))) := by
              have h1 := HT5.out
              have h8 := HIDX.out
              rw [hb2] at h1 h8
              have h2 := mstep_mark HI.out HV.out h1
              rw [h8, ← hb2] at h2
              refine ⟨by omega, _, ⟨_, _, _, rfl, ?_⟩, HM5.out.store (.inr (.inr (.inl rfl)))⟩
              have : flg S s.data.toList (b + 1) = memb (S ++ [s.data.toList]) := by unfold flg; rw [if_neg (by omega)]
              rw [this]
              exact h2
            clear hb2 hend
            generalize (mst ps s.data.toList b).length = K at *
            go_wp2
            go_roundw
            case rel => exact ⟨b + 1, by go_num, HR.out⟩
            case measure => simp [intOf]; omega
          · have heq : ((b : Int) == (s.size : Int)) = false := by rw [beq_eq_false_iff_ne]; omega
            have HR : Hid (MRel w mb F ps S s.data.toList (b + 1) ((w3.setCell ⟨mb, 2, none⟩ (.slice (some ⟨gC, 0, none⟩) ((mst ps s.data.toList b).length + 1) capC)).setCell ⟨gC, (mst ps s.data.toList b).length, none⟩ (.int .i64 1))) := by
              have h9 := HL.out
              refine ⟨by omega, _, ⟨_, _, _, rfl, ?_⟩, HM5.out⟩
              have : flg S s.data.toList (b + 1) = memb S := by unfold flg; rw [if_pos (by omega)]
              rw [this]
              exact HT5.out
            generalize (mst ps s.data.toList b).length = K at *
            go_wp2
            go_roundw
            case rel => exact ⟨b + 1, by go_num, HR.out⟩
            case measure => simp [intOf]; omega
      · obtain rfl : b = s.size + 1 := by omega
        have hd9 : decide ((s.size : Int) + 1 ≤ (s.size : Int)) = false := decide_eq_false (by omega)
        have HT := hid hT
        clear hT
        go_wp2
        go_ret
        refine ⟨rfl, _, ⟨v0, v1, v2, rfl, ?_⟩, HM.out⟩
        have h9 := HT.out
        rw [← HL.out] at h9
        have e1 : flg S s.data.toList (s.data.toList.length + 1) = memb (S ++ [s.data.toList]) := by unfold flg; rw [if_neg (by omega)]
        have e2 : cntM S s.data.toList (s.data.toList.length + 1) = cnt (S ++ [s.data.toList]) := cntTo_full S s.data.toList
        rw [e1, e2] at h9
        exact h9

end Go.Proofs.Ymwhat
