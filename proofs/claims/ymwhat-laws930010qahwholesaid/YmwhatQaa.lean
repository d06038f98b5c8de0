import Derived.Test.YmwhatOps
set_option linter.unusedVariables false
set_option linter.unusedSimpArgs false
namespace Go.Proofs.Ymwhat
open Go.RowKit

/-- A slice of pairs (a bool, a string) that came in. -/
def OpsIn (w : World) (ao : Option Addr) (len : Nat) (D : Nat → Value) (Wd : Nat → ByteArray) : Prop :=
  0 < len → ∃ b off, ao = some ⟨b, off, none⟩ ∧ b < w.heap.size ∧ ∀ i, i < len → w.cell? ⟨b, off + i * 2, none⟩ = some (D i) ∧ w.cell? ⟨b, off + i * 2 + 1, none⟩ = some (.string (Wd i))

theorem filter_erase {S : List (List UInt8)} (h : S.Nodup) (s : List UInt8) : S.filter (fun x => x != s) = S.erase s := by
  rw [h.erase_eq_filter]

theorem le_step {a k m : Nat} (h : a ≤ k * m) : a ≤ (k + 1) * m := Nat.le_trans h (Nat.mul_le_mul_right _ (Nat.le_succ _))

theorem below_drews {B : Nat} {a b : World} (h : Below B a b) (n : Nat) : Below B a (b.drewN n) := ⟨h.os, h.tape, h.output, h.size, h.block⟩

set_option maxHeartbeats 4000000 in
theorem qaa_walk (ao : Option Addr) (len cap : Nat) (D : Nat → Bool) (Wd : Nat → ByteArray) (q : ByteArray) (mq : Bool) (w : World) (hlen : len ≤ 9223372036854775807) (hq : q.size ≤ 9223372036854775807) (hW : ∀ i, i < len → (Wd i).size ≤ 9223372036854775807)
    (hops : OpsIn w ao len (fun i => .bool (D i)) Wd) :
    Calls Yatv.prog 3 #[.slice ao len cap, .string q, .bool mq] w fun e w' => e = .returned (.bool true) ∧ Below w.heap.size w w' := by
  have HO := hid hops
  have HW := hid hW
  clear hops hW
  by_cases h300 : 300 < len
  · have h300' : (300 : Int) < (len : Int) := by omega
    go_enter Yatv.func3, Yatv.ntmps3
    go_wp2
    go_ret
    exact ⟨rfl, Below.refl _ _⟩
  have h300' : ¬ (300 : Int) < (len : Int) := by omega
  by_cases h1024 : 1024 < q.size
  · have h1024' : (1024 : Int) < (q.size : Int) := by omega
    go_enter Yatv.func3, Yatv.ntmps3
    go_wp2
    go_ret
    exact ⟨rfl, Below.refl _ _⟩
  have h1024' : ¬ (1024 : Int) < (q.size : Int) := by omega
  have HS := hid (St.new w)
  go_enter Yatv.func3, Yatv.ntmps3
  go_wp2
  go_loopw [7] (fun i wr => w = wr ∧ ∃ k : Nat, i = .int .i64 k ∧ k ≤ len ∧ ∀ j, j < k → (Wd j).size ≤ 1024) (fun i _ => len - (intOf i).toNat)
  case atStart => exact ⟨rfl, 0, rfl, Nat.zero_le _, fun j hj => absurd hj (Nat.not_lt_zero _)⟩
  case round =>
    obtain ⟨rfl, k, rfl, hk, hb⟩ := hrel
    have HB := hid hb
    clear hb
    by_cases hlt : k < len
    · obtain ⟨b, off, rfl, hbl, hc⟩ := HO.out (by omega)
      have hc1 := (hc k hlt).2
      have hWk := HW.out k hlt
      clear hc
      by_cases hsz : 1024 < (Wd k).size
      · have hsz' : (1024 : Int) < ((Wd k).size : Int) := by omega
        go_wp2
        go_ret
        exact ⟨rfl, Below.refl _ _⟩
      · have hsz' : ¬ (1024 : Int) < ((Wd k).size : Int) := by omega
        go_wp2
        go_roundw
        case rel =>
          refine ⟨by trivial, k + 1, by go_num, by omega, fun j hj => ?_⟩
          by_cases e : j = k
          · subst e; omega
          · exact HB.out j (by omega)
        case measure => simp [intOf]; omega
    · have HB2 : Hid (∀ j, j < len → (Wd j).size ≤ 1024) := fun j hj => HB.out j (by omega)
      clear HB
      go_wp2
      go_loopw [9, 10, 11] (fun mo i _ wr => ∃ (k : Nat) (ps S : List (List UInt8)), i = .int .i64 k ∧ k ≤ len ∧ St w wr w.heap.size mo ps S S ∧ ps.length ≤ k * 1026 ∧ S.length ≤ k) (fun _ i _ _ => len - (intOf i).toNat)
      case atStart => exact ⟨0, [], [], rfl, Nat.zero_le _, HS.out, Nat.le_refl _, Nat.le_refl _⟩
      case round =>
        obtain ⟨k', ps, S, rfl, hk', hst, hps, hSl⟩ := hrel
        have HST := hid hst
        have HND := hid hst.inv.nodup
        clear hst HS
        by_cases hlt' : k' < len
        · have hps3 : ps.length ≤ (k' + 1) * 1026 := le_step hps
          obtain ⟨b, off, rfl, hbl, hc⟩ := HO.out (by omega)
          have hcb := (HST.out.below.cell (p := ⟨b, off + k' * 2, none⟩) hbl).trans (hc k' hlt').1
          have hcs := (HST.out.below.cell (p := ⟨b, off + k' * 2 + 1, none⟩) hbl).trans (hc k' hlt').2
          have hWk := HB2.out k' hlt'
          have HC := hid hc
          clear hc
          go_wp2_with fail
          refine (map11_any (Wd k') wr (by omega)).mono ?_
          rintro e w1 ⟨rfl, hb1⟩
          have HT1 := hid (HST.out.later hb1)
          clear hb1 hcb hcs HST
          have hcb := (HT1.out.below.cell (p := ⟨b, off + k' * 2, none⟩) hbl).trans (HC.out k' hlt').1
          have hml : (bs (mapL 4 (Wd k').data.toList)).size ≤ 1024 := by rw [bs_size, mapL_length]; simpa using hWk
          have HV := hid (mapL_valid 4 (by decide) (by decide) (Wd k').data.toList)
          generalize hz : mapL 4 (Wd k').data.toList = z at *
          have hzl : z.length ≤ 1024 := by rw [bs_size] at hml; exact hml
          clear hz
          cases hD : D k'
          · rw [hD] at hcb
            go_wp2_with fail
            refine (HT1.out.insert (bs z) (by omega) (by omega) HV.out).mono ?_
            rintro e w2 ⟨rfl, hst2⟩
            rw [bs_data] at hst2
            have HT2 := hid hst2
            clear hst2 hcb HT1
            have hSl2 := length_insS S z
            have hps2 := length_insP ps S z
            by_cases hmem : z ∈ S
            · have hmb : memb S z = true := by simp [memb, hmem]
              have HMB := hid hmb
              go_wp2_with (go_at_call 15; refine (in15 HT2.out.sr (by omega) (bs z)).mono ?_; rw [bs_data, HMB.out]; rintro e w' ⟨rfl, rfl⟩)
              go_roundw
              case rel =>
                refine ⟨k' + 1, insP ps S z, S, by go_num, by omega, ?_, by omega, by omega⟩
                have := HT2.out
                rw [insS, if_pos hmem] at this
                exact this
              case measure => simp [intOf]; omega
            · have hmb : memb S z = false := by simp [memb, hmem]
              have HMB := hid hmb
              have HM := hid hmem
              clear hmb hmem
              go_wp2_with (first | (go_at_call 15; refine (in15 HT2.out.sr (by omega) (bs z)).mono ?_; rw [bs_data, HMB.out]; rintro e w' ⟨rfl, hw⟩; obtain rfl := hw.symm) | (at_builtin; refine wpList_append_str rfl (.tmp 72) (.tmp 74) rfl Yatv.underlying31 Yatv.info9 _ S rfl (Row.alloc HT2.out.sr _) w2.heap.size z rfl ?hH ?hn ?_))
              case hH => exact heap_alloc_new _ _
              case hn => omega
              intro v' w3 hsr3 hk3 hat3
              have HT3 : Hid (St w w3 w.heap.size v' (insP ps S z) (insS S z) (S ++ [z])) := (HT2.out.later ((Below.refl _ _).alloc (Nat.le_refl _) _)).model hk3 hsr3 (by simpa using hat3)
              clear hsr3 hk3 hat3 HT2
              go_wp2
              go_roundw
              case rel =>
                refine ⟨k' + 1, insP ps S z, insS S z, by go_num, by omega, ?_, by omega, by omega⟩
                have := HT3.out
                have e : insS S z = S ++ [z] := by rw [insS, if_neg HM.out]
                rw [e] at this ⊢
                exact this
              case measure => simp [intOf]; omega
          · rw [hD] at hcb
            go_wp2_with fail
            refine (HT1.out.remove (bs z) (by omega) (by omega) (by omega)).mono ?_
            rintro e w2 ⟨rfl, hst2⟩
            rw [bs_data] at hst2
            have HT2 := hid hst2
            clear hst2 hcb HT1
            go_wp2_with fail
            refine (drop13 HT2.out.sr (by omega) (bs z)).mono ?_
            rintro e w3 ⟨v', rfl, hsr3, hb3, ho3⟩
            rw [bs_data] at hsr3
            have HT3 := hid (HT2.out.remodel hb3 hsr3 ho3)
            clear hsr3 hb3 ho3
            have hel : (S.erase z).length ≤ k' + 1 := by have := List.length_erase_le (l := S) (a := z); omega
            go_wp2
            go_roundw
            case rel =>
              refine ⟨k' + 1, ps, S.erase z, by go_num, by omega, ?_, hps3, hel⟩
              have := HT3.out
              rw [filter_erase HND.out] at this
              exact this
            case measure => simp [intOf]; omega
        · have hk2 : k' = len := by omega
          have hpsb : ps.length ≤ 1000000 := by omega
          have hSb : S.length ≤ 300 := by omega
          clear hps hSl hk' hlt' hk hlt
          cases mq
          · have HX := HST
            clear HST
            obtain ⟨v0, v1, v2, hT⟩ := HX.out.cells
            have HTT := hid hT
            have hd0 := hT.c0
            clear hT
            go_wp2_with fail
            refine (clone16 HTT.out.r0 (fun _ => rfl) (by omega)).mono ?_
            rintro e x1 ⟨n0, rfl, hr0, hb1, _⟩
            have HTT1 := hid (HTT.out.later hb1)
            have HX1 := hid (HX.out.later hb1)
            have R0 := hid hr0
            have hd1 := HTT1.out.c1
            clear hd0 hr0 hb1 HTT HX
            go_wp2_with fail
            refine (clone17 HTT1.out.r1 (fun _ => rfl) (by omega)).mono ?_
            rintro e x2 ⟨n1, rfl, hr1, hb2, _⟩
            have HTT2 := hid (HTT1.out.later hb2)
            have HX2 := hid (HX1.out.later hb2)
            have R0' := hid (R0.out.later hb2)
            have R1 := hid hr1
            have hd2 := HTT2.out.c2
            clear hd1 hr1 hb2 HTT1 HX1 R0
            go_wp2_with fail
            refine (clone18 HTT2.out.r2 (fun _ => rfl) (by omega)).mono ?_
            rintro e x3 ⟨n2, rfl, hr2, hb3, _⟩
            have HTT3 := hid (HTT2.out.later hb3)
            have HX3 := hid (HX2.out.later hb3)
            have R0'' := hid (R0'.out.later hb3)
            have R1' := hid (R1.out.later hb3)
            have R2 := hid hr2
            clear hd2 hr2 hb3 HTT2 HX2 R0' R1
            have hd0 := HTT3.out.c0
            have hd1 := HTT3.out.c1
            have hd2 := HTT3.out.c2
            have hbb : (memb S q.data.toList != memb S q.data.toList) = false := by simp
            go_wp2_with (first | (go_at_call 19; refine (HX3.out.has q (by omega) (by omega)).mono ?_; rintro e w' ⟨rfl, hw⟩; obtain rfl := hw.symm) | (go_at_call 15; refine (in15 HX3.out.sr (by omega) q).mono ?_; rintro e w' ⟨rfl, hw⟩; obtain rfl := hw.symm) | (go_at_call 20; refine (equal20 R0''.out HTT3.out.r0 (by omega)).mono ?_; rintro e w' ⟨rfl, m1, hw⟩; subst hw) | (go_at_call 21; refine (equal21 (w := x3.drewN _) R1'.out HTT3.out.r1 (by omega)).mono ?_; rintro e w' ⟨rfl, m2, hw⟩; rw [World.drewN_drewN] at hw; subst hw) | (go_at_call 22; refine (equal22 (w := x3.drewN _) R2.out HTT3.out.r2 (by omega)).mono ?_; rintro e w' ⟨rfl, m3, hw⟩; rw [World.drewN_drewN] at hw; subst hw))
            go_ret
            exact ⟨rfl, below_drews HX3.out.below _⟩
          · go_wp2_with fail
            refine (map11_any q wr (by omega)).mono ?_
            rintro e w1 ⟨rfl, hbm⟩
            have HX := hid (HST.out.later hbm)
            have hqs : (bs (mapL 4 q.data.toList)).size ≤ 1024 := by rw [bs_size, mapL_length]; simpa using h1024
            clear hbm HST
            generalize bs (mapL 4 q.data.toList) = Q at *
            obtain ⟨v0, v1, v2, hT⟩ := HX.out.cells
            have HTT := hid hT
            have hd0 := hT.c0
            clear hT
            go_wp2_with fail
            refine (clone16 HTT.out.r0 (fun _ => rfl) (by omega)).mono ?_
            rintro e x1 ⟨n0, rfl, hr0, hb1, _⟩
            have HTT1 := hid (HTT.out.later hb1)
            have HX1 := hid (HX.out.later hb1)
            have R0 := hid hr0
            have hd1 := HTT1.out.c1
            clear hd0 hr0 hb1 HTT HX
            go_wp2_with fail
            refine (clone17 HTT1.out.r1 (fun _ => rfl) (by omega)).mono ?_
            rintro e x2 ⟨n1, rfl, hr1, hb2, _⟩
            have HTT2 := hid (HTT1.out.later hb2)
            have HX2 := hid (HX1.out.later hb2)
            have R0' := hid (R0.out.later hb2)
            have R1 := hid hr1
            have hd2 := HTT2.out.c2
            clear hd1 hr1 hb2 HTT1 HX1 R0
            go_wp2_with fail
            refine (clone18 HTT2.out.r2 (fun _ => rfl) (by omega)).mono ?_
            rintro e x3 ⟨n2, rfl, hr2, hb3, _⟩
            have HTT3 := hid (HTT2.out.later hb3)
            have HX3 := hid (HX2.out.later hb3)
            have R0'' := hid (R0'.out.later hb3)
            have R1' := hid (R1.out.later hb3)
            have R2 := hid hr2
            clear hd2 hr2 hb3 HTT2 HX2 R0' R1
            have hd0 := HTT3.out.c0
            have hd1 := HTT3.out.c1
            have hd2 := HTT3.out.c2
            have hbb : (memb S Q.data.toList != memb S Q.data.toList) = false := by simp
            go_wp2_with (first | (go_at_call 19; refine (HX3.out.has Q (by omega) (by omega)).mono ?_; rintro e w' ⟨rfl, hw⟩; obtain rfl := hw.symm) | (go_at_call 15; refine (in15 HX3.out.sr (by omega) Q).mono ?_; rintro e w' ⟨rfl, hw⟩; obtain rfl := hw.symm) | (go_at_call 20; refine (equal20 R0''.out HTT3.out.r0 (by omega)).mono ?_; rintro e w' ⟨rfl, m1, hw⟩; subst hw) | (go_at_call 21; refine (equal21 (w := x3.drewN _) R1'.out HTT3.out.r1 (by omega)).mono ?_; rintro e w' ⟨rfl, m2, hw⟩; rw [World.drewN_drewN] at hw; subst hw) | (go_at_call 22; refine (equal22 (w := x3.drewN _) R2.out HTT3.out.r2 (by omega)).mono ?_; rintro e w' ⟨rfl, m3, hw⟩; rw [World.drewN_drewN] at hw; subst hw))
            go_ret
            exact ⟨rfl, below_drews HX3.out.below _⟩

end Go.Proofs.Ymwhat
