import Derived.Test.YmwhatQafT
set_option linter.unusedVariables false
set_option linter.unusedSimpArgs false
namespace Go.Proofs.Ymwhat
open Go.RowKit

set_option maxHeartbeats 4000000 in
set_option maxRecDepth 100000 in
theorem qaf_walk (ao : Option Addr) (len cap : Nat) (D : Nat → Int) (V : Nat → Value) (L : Nat → List UInt8) (s : ByteArray) (pk : Nat) (w : World) (hlen : len ≤ 9223372036854775807) (hs : s.size ≤ 9223372036854775807) (hLL : ∀ i, i < len → (L i).length ≤ 9223372036854775807)
    (hops : OpsB w ao len D V) (hBI : ∀ i, i < len → BytesIn w (V i) (L i)) (hD0 : ∀ i, i < len → 0 ≤ D i) (hD1 : ∀ i, i < len → D i ≤ 255) (hpk : pk ≤ 255) :
    Calls Yatv.prog 6 #[.slice ao len cap, .string s, .int .u8 pk] w fun e w' => e = .returned (.bool true) ∧ Below w.heap.size w w' := by
  have HO := hid hops
  have HB := hid hBI
  have HD0 := hid hD0
  have HD1 := hid hD1
  have HLL := hid hLL
  clear hops hBI hD0 hD1 hLL
  by_cases h1 : 1024 < len
  · have h1' : (1024 : Int) < (len : Int) := by omega
    go_enter Yatv.func6, Yatv.ntmps6
    go_wp2
    go_ret
    exact ⟨rfl, Below.refl _ _⟩
  have h1' : ¬ (1024 : Int) < (len : Int) := by omega
  by_cases h2 : 4096 < s.size
  · have h2' : (4096 : Int) < (s.size : Int) := by omega
    go_enter Yatv.func6, Yatv.ntmps6
    go_wp2
    go_ret
    exact ⟨rfl, Below.refl _ _⟩
  have h2' : ¬ (4096 : Int) < (s.size : Int) := by omega
  go_enter Yatv.func6, Yatv.ntmps6
  go_wp2
  go_loopw [7] (fun i wr => w = wr ∧ ∃ k : Nat, i = .int .i64 k ∧ k ≤ len ∧ ∀ j, j < k → (L j).length ≤ 256) (fun i _ => len - (intOf i).toNat)
  case atStart => exact ⟨rfl, 0, rfl, Nat.zero_le _, fun j hj => absurd hj (Nat.not_lt_zero _)⟩
  case round =>
    obtain ⟨rfl, k, rfl, hk, hLb⟩ := hrel
    have HLb := hid hLb
    clear hLb
    by_cases hlt : k < len
    · obtain ⟨b, off, rfl, hbl, hc⟩ := HO.out (by omega)
      have hcs := (hc k hlt).2
      obtain ⟨ak, ck, hv, _⟩ := HB.out k hlt
      rw [hv] at hcs
      have hLk := HLL.out k hlt
      clear hc hv
      by_cases h3 : 256 < (L k).length
      · have h3' : (256 : Int) < ((L k).length : Int) := by omega
        go_wp2
        go_ret
        exact ⟨rfl, Below.refl _ _⟩
      · have h3' : ¬ (256 : Int) < ((L k).length : Int) := by omega
        go_wp2
        go_roundw
        case rel => exact ⟨by trivial, k + 1, by go_num, by omega, fun j hj => by
          by_cases e : j < k
          · exact HLb.out j e
          · obtain rfl : j = k := by omega
            omega⟩
        case measure => simp [intOf]; omega
    · obtain rfl : len = k := by omega
      have hm2 : pk % 2 < 2 := Nat.mod_lt _ (by decide)
      go_upto_if 46 with (fail)
      go_cut [8, 9, 10] (fun s8 _ _ wx => ∃ Q : ByteArray, s8 = .string Q ∧ Q.size ≤ 4096 ∧ Below w.heap.size w wx)
      case first =>
        by_cases hp : pk % 2 = 1
        · have e1 : ((pk : Int) % 2 == 1) = true := by simp; omega
          have hmk := run_make_row' (P := Yatv.prog) 60 5 (.int .u8 0) 1 Yatv.underlying60 Yatv.info5 rfl .i64 .i64 s.size (by omega) (by omega)
          have hsl : s.data.toList.length = s.size := by simp
          go_wp2
          clear hmk e1 hp hm2
          generalize ((pk : Int) % 2 == 1) = bp
          go_loopw [10] (fun i wr => ∃ k : Nat, i = .int .i64 k ∧ k ≤ s.size ∧ Row wr 5 1 (.slice (some ⟨w.heap.size, 0, none⟩) s.size s.size) s.size (tcell tab9 s.data.toList k) ∧ Below w.heap.size w wr) (fun i _ => s.size - (intOf i).toNat)
          case atStart =>
            refine ⟨0, rfl, Nat.zero_le _, ?_, (Below.refl _ _).alloc (Nat.le_refl _) _⟩
            exact Row.new w 5 1 s.size _ _ (by unfold maxLen; omega) (by simp [size_madeCells]) (fun i hi => by have hi' : i < s.size := (by omega); simp [madeCells, tcell, Nat.mod_one, hi'])
          case round =>
            obtain ⟨k, rfl, hk, hr, hb⟩ := hrel
            by_cases hlt2 : k < s.size
            · have hc := hr.cell (i := k) (by omega)
              simp only [tcell, Nat.lt_irrefl, if_false] at hc
              have hf := hr.frozen k
              have h256 : s[k].toNat < 256 := s[k].toNat_lt
              have HR := hid (hr.set k (.int .u8 ((tab9.getD (s[k].toNat % tab9.length) 0).toNat)))
              have HBB := hid hb
              have HTS : Hid (∀ j, (if j = k then Value.int .u8 (tab9.getD (s[k].toNat % tab9.length) 0).toNat else tcell tab9 s.data.toList k j) = tcell tab9 s.data.toList (k + 1) j) := fun j => tcell_succ tab9 s.data.toList k j (by rw [hsl]; exact hlt2)
              clear hr hb
              have HE : Hid (∀ (x : Nat) h, (⟨#[97, 98, 99, 100, 122, 96, 123, 126, 65]⟩ : ByteArray)[x % 9]'h = tab9.getD (x % tab9.length) 0) := fun x h => get_tab tab9 (x % 9) h
              go_wp2
              rw [HE.out]
              go_roundw
              case rel => exact ⟨k + 1, by go_num, by omega, HR.out.congr (fun j _ => HTS.out j), HBB.out.setCell (p := ⟨w.heap.size, k, none⟩) (Nat.le_refl _) _⟩
              case measure => simp [intOf]; omega
            · obtain rfl : s.size = k := by omega
              have hcv := run_convert_bytes_arg (P := Yatv.prog) wr 60 5 Yatv.underlying60 Yatv.underlying5 w.heap.size 0 s.size s.size ((List.range s.size).map fun j => (((tabL tab9 s.data.toList).getD j 0).toNat : Int)) (by simp) (fun i hi => by
                rw [Nat.zero_add, hr.cell (i := i) (by omega)]
                simp [tcell, hi]) 9 Yatv.underlying9
              have hts := tcell_str tab9 s.data.toList
              rw [hsl] at hts
              rw [hts] at hcv
              have HBB := hid hb
              clear hr hb hts
              go_wp2
              go_meet
              case rel => exact ⟨_, rfl, by rw [bs_size, tabL_length, hsl]; omega, HBB.out⟩
        · have e1 : ((pk : Int) % 2 == 1) = false := by rw [beq_eq_false_iff_ne]; omega
          go_wp2
          go_meet
          case rel => exact ⟨s, rfl, by omega, Below.refl _ _⟩
      case rest =>
        rename_i hK
        obtain ⟨Q, rfl, hQs, hbc⟩ := hcut
        exact hK _ _ (qaf_tail hbc HO.out HB.out HLb.out HD0.out HD1.out (by omega) hQs)

end Go.Proofs.Ymwhat
