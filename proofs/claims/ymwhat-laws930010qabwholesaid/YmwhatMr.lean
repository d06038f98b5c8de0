import Derived.Test.YmwhatMi
set_option linter.unusedVariables false
set_option linter.unusedSimpArgs false
namespace Go.Proofs.Ymwhat
open Go.RowKit

/-! ### remove -/

def cntR (S : List (List UInt8)) (s : List UInt8) : Nat → List UInt8 → Nat
  | 0 => cnt S
  | b + 1 => cntRem S s b

theorem cntR_succ (S : List (List UInt8)) (s : List UInt8) (hs : s ∈ S) (b : Nat) (hb : b ≤ s.length) (q : List UInt8) : (cntR S s (b + 1) q : Int) = if q = s.take b then (cntR S s b q : Int) - 1 else cntR S s b q := by
  cases b with
  | zero => simp only [cntR, List.take_zero]; exact cntRem_zero S s hs q
  | succ b => exact cntRem_succ S s hs b (by omega) q

theorem cntR_le (S : List (List UInt8)) (s : List UInt8) (b : Nat) (q : List UInt8) : cntR S s b q ≤ S.length := by
  cases b with
  | zero => exact cnt_le S q
  | succ b => have := cnt_le S q; simp only [cntR, cntRem]; omega

theorem cntR_full {S : List (List UInt8)} {s : List UInt8} (hs : s ∈ S) : cntR S s (s.length + 1) = cnt (S.erase s) := by
  funext q
  have := cnt_erase hs q
  simp only [cntR, cntRem, List.take_length]
  split at this <;> simp_all

theorem wx_clr {ps S : List (List UInt8)} (hi : SInv ps S) {s : List UInt8} (hs : s ∈ ps) (n : Nat) (hn : n < ps.length) : (if n = ps.idxOf s then false else wx ps (memb S) n) = wx ps (memb (S.erase s)) n := by
  have hq := List.getElem?_eq_getElem hn
  generalize ps[n] = q at hq
  rw [wx_some hq, wx_some hq]
  have hidx := hi.p.idx_eq hq
  simp only [memb, hi.nodup.mem_erase_iff]
  by_cases e : q = s
  · subst e; rw [if_pos hidx.symm]; simp
  · rw [if_neg]
    · simp [e]
    · intro e2
      apply e
      rw [e2, getElem?_idxOf hs] at hq
      exact (Option.some.inj hq).symm

/-- What holds at the head of remove's loop. -/
def RRel (w : World) (mb : Nat) (F : Nat → Prop) (ps S : List (List UInt8)) (s : List UInt8) (b : Nat) (wr : World) : Prop :=
  b ≤ s.length + 1 ∧ Mo wr mb F ps (memb S) (cntR S s b) ∧ Moved F F w wr

set_option maxHeartbeats 800000 in
theorem mremove_no {w : World} {mb : Nat} {F : Nat → Prop} {ps S : List (List UInt8)} {g : List UInt8 → Nat} (h : Mo w mb F ps (memb S) g) (hk : ps.length ≤ 1000000000) (s : ByteArray) (hb : memb S s.data.toList = false) :
    Calls Yatv.prog 51 #[.pointer (some ⟨mb,0,none⟩), .string s] w fun e w' => e = .returned (.bool false) ∧ w' = w := by
  obtain ⟨v0, v1, v2, _, hT⟩ := h
  have HT := hid hT
  by_cases hm : s.data.toList ∈ ps
  · have hml := List.idxOf_lt_length_iff.2 hm
    obtain ⟨g1, c1, rfl, _⟩ := hT.r1.pos (by omega)
    have hd1 := hT.c1
    have hx := hT.r1.cell (i := ps.idxOf s.data.toList) (by omega)
    rw [wx_some (getElem?_idxOf hm), hb] at hx
    have HI := hid (idxI_nonneg hm)
    clear hb hm hT
    generalize ps.idxOf s.data.toList = J at *
    have hJ : ¬ (J : Int) < 0 := by omega
    have hJ2 : decide ((J : Int) < 0) = false := decide_eq_false hJ
    go_enter Yatv.func51, Yatv.ntmps51
    go_wp2_with (go_at_call 52; refine (index52 HT.out hk s).mono ?_; rw [HI.out]; rintro e w' ⟨rfl, hw⟩; obtain rfl := hw.symm)
    go_ret
    exact ⟨rfl, rfl⟩
  · have HI := hid (idxI_neg hm)
    clear hb hm hT
    go_enter Yatv.func51, Yatv.ntmps51
    go_wp2_with (go_at_call 52; refine (index52 HT.out hk s).mono ?_; rw [HI.out]; rintro e w' ⟨rfl, hw⟩; obtain rfl := hw.symm)
    go_ret
    exact ⟨rfl, rfl⟩

set_option maxHeartbeats 4000000 in
set_option maxRecDepth 100000 in
theorem mremove_yes {w : World} {mb : Nat} {F : Nat → Prop} {ps S : List (List UInt8)} (h : Mo w mb F ps (memb S) (cnt S)) (hi : SInv ps S) (s : ByteArray) (hk : ps.length ≤ 1000000) (hs : s.size ≤ 1000000) (hSl : S.length ≤ 1000000) (hmS : s.data.toList ∈ S) :
    Calls Yatv.prog 51 #[.pointer (some ⟨mb,0,none⟩), .string s] w fun e w' => e = .returned (.bool true) ∧ Mo w' mb F ps (memb (S.erase s.data.toList)) (cnt (S.erase s.data.toList)) ∧ Moved F F w w' := by
  have HI := hid hi
  have HS := hid hmS
  have HL : Hid (s.data.toList.length = s.size) := by show _ = _; simp
  have hm := hi.sub _ hmS
  have HMP := hid hm
  have HS0 : Hid (RRel w mb F ps S s.data.toList 0 w) := ⟨Nat.zero_le _, h, Moved.refl _ _⟩
  obtain ⟨v0, v1, v2, _, hT⟩ := h
  have HT0 := hid hT
  have hml := List.idxOf_lt_length_iff.2 hm
  obtain ⟨g1, c1, rfl, _⟩ := hT.r1.pos (by omega)
  have hd1 := hT.c1
  have hx := hT.r1.cell (i := ps.idxOf s.data.toList) (by omega)
  rw [wx_some (getElem?_idxOf hm), show memb S s.data.toList = true by simp [memb, hmS]] at hx
  have HJ := hid (idxI_nonneg hm)
  have HJJ : Hid (∃ J, J = ps.idxOf s.data.toList) := ⟨_, rfl⟩
  clear hi hm hT hmS
  obtain ⟨J, hJJ⟩ := HJJ.out
  rw [← hJJ] at hml hx HJ
  have HJE := hid hJJ
  clear hJJ HJJ
  have hJ : ¬ (J : Int) < 0 := by omega
  have hJ2 : decide ((J : Int) < 0) = false := decide_eq_false hJ
  go_enter Yatv.func51, Yatv.ntmps51
  go_wp2_with (go_at_call 52; refine (index52 HT0.out (by omega) s).mono ?_; rw [HJ.out]; rintro e w' ⟨rfl, hw⟩; obtain rfl := hw.symm)
  clear hd1 hx HT0 HJ hJ2
  go_loopw [6, 7] (fun kk _ wr => ∃ b : Nat, kk = .int .i64 b ∧ RRel w mb F ps S s.data.toList b wr) (fun kk _ _ => s.size + 1 - (intOf kk).toNat)
  case atStart => exact ⟨0, rfl, HS0.out⟩
  case round =>
    obtain ⟨b, rfl, hbl, ⟨v0, v1, v2, hF, hT⟩, hM⟩ := hrel
    have hbs : b ≤ s.size + 1 := by have := HL.out; omega
    have HM := hid hM
    have HF := hid hF
    have HT := hid hT
    obtain ⟨g1, c1, rfl, _⟩ := hT.r1.pos (by omega)
    obtain ⟨g2, c2, rfl, _⟩ := hT.r2.pos (by omega)
    clear hM HS0 hbl hF
    by_cases hle : b ≤ s.size
    · have hle' : b ≤ s.data.toList.length := by rw [HL.out]; exact hle
      have hm : s.data.toList.take b ∈ ps := HI.out.p.prefixes (List.take_prefix _ _) HMP.out
      obtain ⟨xb, hxb⟩ : ∃ xb, s.extract 0 b = xb := ⟨_, rfl⟩
      have HX : Hid (xb.data.toList = s.data.toList.take b) := by rw [← hxb]; exact extract_toList s b
      have hml2 := List.idxOf_lt_length_iff.2 hm
      have hd2 := hT.c2
      have hx := hT.r2.cell (i := ps.idxOf (s.data.toList.take b)) (by omega)
      have hfx := hT.r2.frozen (ps.idxOf (s.data.toList.take b))
      have hbd := bx_bounds (ps := ps) (S := S) (f := cntR S s.data.toList b) (cntR_le S s.data.toList b) (ps.idxOf (s.data.toList.take b))
      have HIJ := hid (idxI_nonneg hm)
      have HR : Hid (RRel w mb F ps S s.data.toList (b + 1) (wr.setCell ⟨g2, ps.idxOf (s.data.toList.take b), none⟩ (.int .i64 (bx ps (cntR S s.data.toList b) (ps.idxOf (s.data.toList.take b)) - 1)))) := by
        refine ⟨by omega, ⟨v0, _, _, HF.out, ?_⟩, HM.out.store (HF.out ▸ .inr (.inr (.inr rfl)))⟩
        exact (hT.setB _ _).congr (fun _ _ => rfl) (fun _ _ => rfl) (fun n hn => bx_setm HI.out.p hm (fun q => cntR_succ S _ HS.out b hle' q) n hn)
      clear hT hm
      generalize ps.idxOf (s.data.toList.take b) = J2 at *
      generalize bx ps (cntR S s.data.toList b) J2 = cv at *
      go_wp2_with (go_at_call 52; refine (index52 HT.out (by omega) xb).mono ?_; rw [HX.out, HIJ.out]; rintro e w' ⟨rfl, hw⟩; obtain rfl := hw.symm)
      go_roundw
      case rel => exact ⟨b + 1, by go_num, HR.out⟩
      case measure => simp [intOf]; omega
    · obtain rfl : b = s.size + 1 := by omega
      have hd9 : decide ((s.size : Int) + 1 ≤ (s.size : Int)) = false := decide_eq_false (by omega)
      have hd1 := hT.c1
      have hx := hT.r1.cell (i := J) (by omega)
      have hfx := hT.r1.frozen J
      have HR : Hid (Mo (wr.setCell ⟨g1, J, none⟩ (.bool false)) mb F ps (memb (S.erase s.data.toList)) (cnt (S.erase s.data.toList)) ∧ Moved F F w (wr.setCell ⟨g1, J, none⟩ (.bool false))) := by
        refine ⟨⟨v0, _, _, HF.out, ?_⟩, HM.out.store (HF.out ▸ .inr (.inr (.inl rfl)))⟩
        have h9 := hT.setW J false
        rw [← HL.out, cntR_full HS.out] at h9
        exact h9.congr (fun _ _ => rfl) (fun n hn => by rw [HJE.out]; exact wx_clr HI.out HMP.out n hn) (fun _ _ => rfl)
      clear hT
      go_wp2
      go_ret
      exact ⟨rfl, HR.out⟩

/-- The model's insert and remove, in one. -/
theorem Mo.insert {w : World} {mb : Nat} {F : Nat → Prop} {ps S : List (List UInt8)} (h : Mo w mb F ps (memb S) (cnt S)) (hi : SInv ps S) (s : ByteArray) (hk : ps.length + s.size + 1 ≤ 1000000) (hSl : S.length + 1 ≤ 1000000) (hv : validB s.data.toList = true) :
    Calls Yatv.prog 50 #[.pointer (some ⟨mb,0,none⟩), .string s] w fun e w' => e = .returned (.int .i64 (if s.data.toList ∈ S then 1 else 0)) ∧ ∃ F', Mo w' mb F' (insP ps S s.data.toList) (memb (insS S s.data.toList)) (cnt (insS S s.data.toList)) ∧ Moved F F' w w' := by
  by_cases hm : s.data.toList ∈ S
  · have hb : memb S s.data.toList = true := by simp [memb, hm]
    rw [if_pos hm, insP, if_pos hm, insS, if_pos hm]
    exact (minsert_there h hi (by omega) s (by omega) hv hb).mono fun e w' ⟨h1, h2⟩ => ⟨h1, F, h2 ▸ h, h2 ▸ Moved.refl _ _⟩
  · have hb : memb S s.data.toList = false := by simp [memb, hm]
    rw [if_neg hm, insP, if_neg hm, insS, if_neg hm]
    exact minsert_new h hi s hk hSl hv hb

theorem Mo.remove {w : World} {mb : Nat} {F : Nat → Prop} {ps S : List (List UInt8)} (h : Mo w mb F ps (memb S) (cnt S)) (hi : SInv ps S) (s : ByteArray) (hk : ps.length ≤ 1000000) (hs : s.size ≤ 1000000) (hSl : S.length ≤ 1000000) :
    Calls Yatv.prog 51 #[.pointer (some ⟨mb,0,none⟩), .string s] w fun e w' => e = .returned (.bool (memb S s.data.toList)) ∧ Mo w' mb F ps (memb (S.erase s.data.toList)) (cnt (S.erase s.data.toList)) ∧ Moved F F w w' := by
  by_cases hm : s.data.toList ∈ S
  · have hb : memb S s.data.toList = true := by simp [memb, hm]
    rw [hb]
    exact mremove_yes h hi s hk hs hSl hm
  · have hb : memb S s.data.toList = false := by simp [memb, hm]
    rw [hb, List.erase_of_not_mem hm]
    exact (mremove_no h (by omega) s hb).mono fun e w' ⟨h1, h2⟩ => ⟨h1, h2 ▸ h, h2 ▸ Moved.refl _ _⟩

end Go.Proofs.Ymwhat
